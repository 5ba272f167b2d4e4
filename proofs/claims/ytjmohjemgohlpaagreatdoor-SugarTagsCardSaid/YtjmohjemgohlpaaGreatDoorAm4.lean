/- The interpreter once more, by recursors alone, as the kernel runs it fast; what it finds true, the interpreter finds. By an AI agent. No person has read it. -/
import Derived.Test.YtjmohjemgohlpaaGreatDoorAm3

/- The interpreter once more, as the kernel runs it fast: by recursors alone, each answer given to what comes behind. What it says is true, the interpreter says too. -/
namespace Go.Proofs.YtjmohjemgohlpaaGreatDoor.Am
open Go

/-! ### Small things -/
noncomputable def bc (b t f : Bool) : Bool := @Bool.rec (fun _ => Bool) f t b
theorem bc_eq (b t f : Bool) : bc b t f = cond b t f := by cases b <;> rfl
theorem bc_true {b t f : Bool} (h : bc b t f = true) : (b = true ∧ t = true) ∨ (b = false ∧ f = true) := by
  cases b
  · exact .inr ⟨rfl, h⟩
  · exact .inl ⟨rfl, h⟩

noncomputable def fgetN {α : Type} (v : Option α) (_ _ : Tr α) (ihl ihr : Nat → Option α) (n : Nat) : Option α :=
  @Bool.rec (fun _ => Option α) (@Bool.rec (fun _ => Option α) (ihr (Nat.pred (Nat.div n 2))) (ihl (Nat.div n 2)) (Nat.beq (Nat.mod n 2) 1)) v (Nat.beq n 0)
noncomputable def fget {α : Type} (t : Tr α) : Nat → Option α := @Tr.rec α (fun _ => Nat → Option α) (fun _ => none) fgetN t
theorem fget_eq {α : Type} (t : Tr α) : ∀ n, fget t n = t.get n := by
  induction t with
  | leaf => intro n; rfl
  | node v l r ihl ihr =>
    intro n
    show fgetN v l r (fget l) (fget r) n = _
    unfold fgetN
    simp only [Tr.get]
    rw [ihl, ihr]
    show _ = cond (Nat.beq n 0) v (cond (Nat.beq (Nat.mod n 2) 1) (l.get (Nat.div n 2)) (r.get (Nat.pred (Nat.div n 2))))
    cases Nat.beq n 0 <;> cases Nat.beq (Nat.mod n 2) 1 <;> rfl

noncomputable def fnewS {α : Type} (x : α) (_ : Nat) (ih : Nat → Tr α) (n : Nat) : Tr α :=
  @Bool.rec (fun _ => Tr α) (@Bool.rec (fun _ => Tr α) (.node none .leaf (ih (Nat.pred (Nat.div n 2)))) (.node none (ih (Nat.div n 2)) .leaf) (Nat.beq (Nat.mod n 2) 1)) (.node (some x) .leaf .leaf) (Nat.beq n 0)
noncomputable def fnew {α : Type} (x : α) (k : Nat) : Nat → Tr α := @Nat.rec (fun _ => Nat → Tr α) (fun _ => .leaf) (fnewS x) k
noncomputable def fsetN {α : Type} (x : α) (v : Option α) (l r : Tr α) (ihl ihr : Nat → Tr α) (n : Nat) : Tr α :=
  @Bool.rec (fun _ => Tr α) (@Bool.rec (fun _ => Tr α) (.node v l (ihr (Nat.pred (Nat.div n 2)))) (.node v (ihl (Nat.div n 2)) r) (Nat.beq (Nat.mod n 2) 1)) (.node (some x) l r) (Nat.beq n 0)
noncomputable def fset {α : Type} (t : Tr α) (x : α) : Nat → Tr α := @Tr.rec α (fun _ => Nat → Tr α) (fun n => fnew x (Nat.succ n) n) (fsetN x) t

theorem half_lt {n k : Nat} (h : n < k + 1) (h0 : n ≠ 0) : n / 2 < k := by omega
theorem fnew_eq {α : Type} (x : α) : ∀ k n, fnew x k n = Tr.setF x k .leaf n := by
  intro k
  induction k with
  | zero => intro n; rfl
  | succ k ih =>
    intro n
    show fnewS x k (fnew x k) n = _
    unfold fnewS
    simp only [Tr.setF, ih]
    show _ = cond (Nat.beq n 0) (Tr.node (some x) .leaf .leaf) (cond (Nat.beq (Nat.mod n 2) 1) (.node none (Tr.setF x k .leaf (Nat.div n 2)) .leaf) (.node none .leaf (Tr.setF x k .leaf (Nat.pred (Nat.div n 2)))))
    cases Nat.beq n 0 <;> cases Nat.beq (Nat.mod n 2) 1 <;> rfl
theorem setF_fuel {α : Type} (x : α) : ∀ (k j : Nat) (t : Tr α) (n : Nat), n < k → n < j → Tr.setF x k t n = Tr.setF x j t n := by
  intro k
  induction k with
  | zero => intro j t n h; omega
  | succ k ih =>
    intro j t n h1 h2
    obtain ⟨j, rfl⟩ : ∃ i, j = i + 1 := ⟨j - 1, by omega⟩
    by_cases h0 : n = 0
    · subst h0; cases t <;> rfl
    · cases t with
      | leaf => simp only [Tr.setF]; rw [ih j .leaf (n / 2) (by omega) (by omega), ih j .leaf (n / 2 - 1) (by omega) (by omega)]
      | node v l r => simp only [Tr.setF]; rw [ih j l (n / 2) (by omega) (by omega), ih j r (n / 2 - 1) (by omega) (by omega)]
theorem fset_eq {α : Type} (x : α) (t : Tr α) : ∀ n, fset t x n = t.set n x := by
  induction t with
  | leaf =>
    intro n
    show fnew x (Nat.succ n) n = Tr.setF x (n + 1) .leaf n
    exact fnew_eq x _ n
  | node v l r ihl ihr =>
    intro n
    show fsetN x v l r (fset l x) (fset r x) n = _
    unfold fsetN Tr.set
    simp only [Tr.setF]
    by_cases h0 : n = 0
    · subst h0; rfl
    · have e1 : Nat.beq n 0 = false := by cases n with
      | zero => exact absurd rfl h0
      | succ n => rfl
      rw [ihl, ihr]
      unfold Tr.set
      show _ = cond (Nat.beq n 0) (Tr.node (some x) l r) (cond (Nat.beq (Nat.mod n 2) 1) (.node v (Tr.setF x n l (Nat.div n 2)) r) (.node v l (Tr.setF x n r (Nat.pred (Nat.div n 2)))))
      rw [e1]
      have a : Tr.setF x (Nat.div n 2 + 1) l (Nat.div n 2) = Tr.setF x n l (Nat.div n 2) := by
        by_cases h : n / 2 < n
        · exact setF_fuel x _ _ _ _ (Nat.lt_succ_self _) h
        · omega
      have b : Tr.setF x (Nat.pred (Nat.div n 2) + 1) r (Nat.pred (Nat.div n 2)) = Tr.setF x n r (Nat.pred (Nat.div n 2)) := by
        have : Nat.pred (Nat.div n 2) < n := by
          have : Nat.div n 2 = n / 2 := rfl
          rw [this, Nat.pred_eq_sub_one]; omega
        exact setF_fuel x _ _ _ _ (Nat.lt_succ_self _) this
      rw [a, b]
      cases Nat.beq (Nat.mod n 2) 1 <;> rfl

/-! ### Frames and memory -/
noncomputable def getV (F : Fr) (t : Nat) : Value := @Fr.rec (fun _ => Value) (fun tr _ _ _ => @Option.rec Value (fun _ => Value) undef (fun v => v) (fget tr t)) F
theorem getV_eq (F : Fr) (t : Nat) : getV F t = F.get t := by
  cases F with
  | mk tr n m r =>
    show @Option.rec Value (fun _ => Value) undef (fun v => v) (fget tr t) = (tr.get t).getD undef
    rw [fget_eq]; cases tr.get t <;> rfl
noncomputable def evalT (t : Nat) (F : Fr) : Value := getV F t
noncomputable def evalG (g : Nat) (_ : Fr) : Value := .pointer (some ⟨g, 0, none⟩)
noncomputable def evalN (f : FuncId) (_ : Fr) : Value := .func (.func f) #[] #[]
noncomputable def evalF (x : Operand) : Fr → Value := @Operand.rec (fun _ => Fr → Value) evalT (fun v _ => v) evalG evalN x
theorem evalF_eq (x : Operand) (F : Fr) : evalF x F = F.eval x := by
  cases x with
  | tmp t => exact getV_eq F t
  | const v => rfl
  | global g => rfl
  | func f => rfl
noncomputable def evalsC (x : Operand) (_ : List Operand) (ih : Fr → List Value) (F : Fr) : List Value := evalF x F :: ih F
noncomputable def evalsF (l : List Operand) : Fr → List Value := @List.rec Operand (fun _ => Fr → List Value) (fun _ => []) evalsC l
theorem evalsF_eq (l : List Operand) (F : Fr) : evalsF l F = l.map F.eval := by
  induction l with
  | nil => rfl
  | cons x l ih =>
    show evalF x F :: evalsF l F = _
    rw [ih, evalF_eq]; rfl

noncomputable def getB (H : Hp) (b : Nat) : Blk := @Hp.rec (fun _ => Blk) (fun tr _ _ => @Option.rec Blk (fun _ => Blk) .dead (fun v => v) (fget tr b)) H
theorem getB_eq (H : Hp) (b : Nat) : getB H b = H.get b := by
  cases H with
  | mk tr n m =>
    show @Option.rec Blk (fun _ => Blk) .dead (fun v => v) (fget tr b) = (tr.get b).getD .dead
    rw [fget_eq]; cases tr.get b <;> rfl
/-- a new block, and its number -/
noncomputable def newB (H : Hp) (x : Blk) (k : Nat → Hp → Bool) : Bool := @Hp.rec (fun _ => Bool) (fun tr n m => bc (Nat.ble n 1000000000) (k n ⟨fset tr x n, Nat.succ n, m⟩) false) H
theorem newB_true {H : Hp} {x : Blk} {k : Nat → Hp → Bool} (h : newB H x k = true) : k H.size (H.new x) = true := by
  cases H with
  | mk tr n m =>
    rcases bc_true h with ⟨_, h⟩ | ⟨_, h⟩
    · rw [fset_eq] at h; exact h
    · cases h
noncomputable def updB (H : Hp) (b : Nat) (x : Blk) (k : Hp → Bool) : Bool := @Hp.rec (fun _ => Bool) (fun tr n m => k ⟨fset tr x b, n, @Bool.rec (fun _ => Nat) m b (Nat.ble b m)⟩) H
theorem updB_eq {H : Hp} {b : Nat} {x : Blk} {k : Hp → Bool} : updB H b x k = k (H.upd b x) := by
  cases H with
  | mk tr n m =>
    show k ⟨fset tr x b, n, @Bool.rec (fun _ => Nat) m b (Nat.ble b m)⟩ = _
    have : @Bool.rec (fun _ => Nat) m b (Nat.ble b m) = Nat.min m b := by
      cases hb : Nat.ble b m with
      | true =>
        have : b ≤ m := Nat.le_of_ble_eq_true hb
        show b = min m b
        omega
      | false =>
        have : ¬ b ≤ m := fun h => by rw [Nat.ble_eq_true_of_le h] at hb; cases hb
        show m = min m b
        omega
    rw [this, fset_eq]; rfl

/-! ### Values -/
section
variable {R : Type}
noncomputable def vIntD : Value → (IntKind → Int → Bool) → Bool → Bool := fun v => @Value.rec (fun _ => (IntKind → Int → Bool) → Bool → Bool) (fun _ => PUnit) (fun _ => PUnit) (fun _ _ d => d) (fun k n f _ => f k n) (fun _ _ _ d => d) (fun _ _ _ _ d => d) (fun _ _ d => d) (fun _ _ d => d) (fun _ _ _ _ d => d) (fun _ _ d => d) (fun _ _ d => d) (fun _ _ _ _ _ _ d => d) (fun _ d => d) (fun _ _ _ _ d => d) (fun _ d => d) (fun _ _ _ d => d) (fun _ _ _ d => d) (fun _ _ => PUnit.unit) PUnit.unit (fun _ _ _ _ => PUnit.unit) v
theorem vIntD_true {v : Value} {f : IntKind → Int → Bool} {d : Bool} (h : vIntD v f d = true) : (∃ k n, v = .int k n ∧ f k n = true) ∨ ((∀ k n, v ≠ .int k n) ∧ d = true) := by
  cases v <;> first | exact .inl ⟨_, _, rfl, h⟩ | exact .inr ⟨fun _ _ => by simp, h⟩
noncomputable def vBool : Value → Bool → Bool → Bool := fun v => @Value.rec (fun _ => Bool → Bool → Bool) (fun _ => PUnit) (fun _ => PUnit) (fun b t f => bc b t f) (fun _ _ _ _ => false) (fun _ _ _ _ => false) (fun _ _ _ _ _ => false) (fun _ _ _ => false) (fun _ _ _ => false) (fun _ _ _ _ _ => false) (fun _ _ _ => false) (fun _ _ _ => false) (fun _ _ _ _ _ _ _ => false) (fun _ _ => false) (fun _ _ _ _ _ => false) (fun _ _ => false) (fun _ _ _ _ => false) (fun _ _ _ _ => false) (fun _ _ => PUnit.unit) PUnit.unit (fun _ _ _ _ => PUnit.unit) v
theorem vBool_true {v : Value} {t f : Bool} (h : vBool v t f = true) : (v = .bool true ∧ t = true) ∨ (v = .bool false ∧ f = true) := by
  cases v with
  | bool b => cases b <;> first | exact .inl ⟨rfl, h⟩ | exact .inr ⟨rfl, h⟩
  | _ => cases h
noncomputable def vPtr : Value → (Addr → Bool) → Bool := fun v => @Value.rec (fun _ => (Addr → Bool) → Bool) (fun _ => PUnit) (fun _ => PUnit) (fun _ _ => false) (fun _ _ _ => false) (fun _ _ _ => false) (fun _ _ _ _ => false) (fun _ _ => false) (fun a k => @Option.rec Addr (fun _ => Bool) false k a) (fun _ _ _ _ => false) (fun _ _ => false) (fun _ _ => false) (fun _ _ _ _ _ _ => false) (fun _ => false) (fun _ _ _ _ => false) (fun _ => false) (fun _ _ _ => false) (fun _ _ _ => false) (fun _ _ => PUnit.unit) PUnit.unit (fun _ _ _ _ => PUnit.unit) v
theorem vPtr_true {v : Value} {k : Addr → Bool} (h : vPtr v k = true) : ∃ a, v = .pointer (some a) ∧ k a = true := by
  cases v with
  | pointer a => cases a with
    | none => cases h
    | some a => exact ⟨a, rfl, h⟩
  | _ => cases h
noncomputable def vSlice : Value → (Option Addr → Nat → Nat → Bool) → Bool := fun v => @Value.rec (fun _ => (Option Addr → Nat → Nat → Bool) → Bool) (fun _ => PUnit) (fun _ => PUnit) (fun _ _ => false) (fun _ _ _ => false) (fun _ _ _ => false) (fun _ _ _ _ => false) (fun _ _ => false) (fun _ _ => false) (fun a l c k => k a l c) (fun _ _ => false) (fun _ _ => false) (fun _ _ _ _ _ _ => false) (fun _ => false) (fun _ _ _ _ => false) (fun _ => false) (fun _ _ _ => false) (fun _ _ _ => false) (fun _ _ => PUnit.unit) PUnit.unit (fun _ _ _ _ => PUnit.unit) v
theorem vSlice_true {v : Value} {k : Option Addr → Nat → Nat → Bool} (h : vSlice v k = true) : ∃ a l c, v = .slice a l c ∧ k a l c = true := by
  cases v with
  | slice a l c => exact ⟨a, l, c, rfl, h⟩
  | _ => cases h
noncomputable def vTuple : Value → (Array Value → Bool) → Bool := fun v => @Value.rec (fun _ => (Array Value → Bool) → Bool) (fun _ => PUnit) (fun _ => PUnit) (fun _ _ => false) (fun _ _ _ => false) (fun _ _ _ => false) (fun _ _ _ _ => false) (fun _ _ => false) (fun _ _ => false) (fun _ _ _ _ => false) (fun _ _ => false) (fun _ _ => false) (fun _ _ _ _ _ _ => false) (fun _ => false) (fun _ _ _ _ => false) (fun _ => false) (fun _ _ _ => false) (fun a _ k => k a) (fun _ _ => PUnit.unit) PUnit.unit (fun _ _ _ _ => PUnit.unit) v
theorem vTuple_true {v : Value} {k : Array Value → Bool} (h : vTuple v k = true) : ∃ a, v = .tuple a ∧ k a = true := by
  cases v with
  | tuple a => exact ⟨a, rfl, h⟩
  | _ => cases h
noncomputable def vAgg : Value → (Array Value → Bool) → Bool := fun v => @Value.rec (fun _ => (Array Value → Bool) → Bool) (fun _ => PUnit) (fun _ => PUnit) (fun _ _ => false) (fun _ _ _ => false) (fun _ _ _ => false) (fun _ _ _ _ => false) (fun _ _ => false) (fun _ _ => false) (fun _ _ _ _ => false) (fun _ _ => false) (fun _ _ => false) (fun _ _ _ _ _ _ => false) (fun _ => false) (fun _ _ _ _ => false) (fun _ => false) (fun a _ k => k a) (fun _ _ _ => false) (fun _ _ => PUnit.unit) PUnit.unit (fun _ _ _ _ => PUnit.unit) v
theorem vAgg_true {v : Value} {k : Array Value → Bool} (h : vAgg v k = true) : ∃ a, v = .agg a ∧ k a = true := by
  cases v with
  | agg a => exact ⟨a, rfl, h⟩
  | _ => cases h
noncomputable def vStr : Value → (ByteArray → Bool) → Bool := fun v => @Value.rec (fun _ => (ByteArray → Bool) → Bool) (fun _ => PUnit) (fun _ => PUnit) (fun _ _ => false) (fun _ _ _ => false) (fun _ _ _ => false) (fun _ _ _ _ => false) (fun a k => k a) (fun _ _ => false) (fun _ _ _ _ => false) (fun _ _ => false) (fun _ _ => false) (fun _ _ _ _ _ _ => false) (fun _ => false) (fun _ _ _ _ => false) (fun _ => false) (fun _ _ _ => false) (fun _ _ _ => false) (fun _ _ => PUnit.unit) PUnit.unit (fun _ _ _ _ => PUnit.unit) v
theorem vStr_true {v : Value} {k : ByteArray → Bool} (h : vStr v k = true) : ∃ a, v = .string a ∧ k a = true := by
  cases v with
  | string a => exact ⟨a, rfl, h⟩
  | _ => cases h
noncomputable def vFunc : Value → (Fn → Array Value → Array Value → Bool) → Bool := fun v => @Value.rec (fun _ => (Fn → Array Value → Array Value → Bool) → Bool) (fun _ => PUnit) (fun _ => PUnit) (fun _ _ => false) (fun _ _ _ => false) (fun _ _ _ => false) (fun _ _ _ _ => false) (fun _ _ => false) (fun _ _ => false) (fun _ _ _ _ => false) (fun _ _ => false) (fun _ _ => false) (fun f a c _ _ k => k f a c) (fun _ => false) (fun _ _ _ _ => false) (fun _ => false) (fun _ _ _ => false) (fun _ _ _ => false) (fun _ _ => PUnit.unit) PUnit.unit (fun _ _ _ _ => PUnit.unit) v
theorem vFunc_true {v : Value} {k : Fn → Array Value → Array Value → Bool} (h : vFunc v k = true) : ∃ f a c, v = .func f a c ∧ k f a c = true := by
  cases v with
  | func f a c => exact ⟨f, a, c, rfl, h⟩
  | _ => cases h
end
noncomputable def rowB : Blk → (List Value → Bool → Bool) → Bool := fun x =>
  @Blk.rec (fun _ => (List Value → Bool → Bool) → Bool) (fun _ => false) (fun c o k => k c o) (fun _ _ _ => false) (fun _ _ _ => false) (fun _ _ _ => false) (fun _ _ _ _ _ _ _ => false) (fun _ => false) x
theorem rowB_true {x : Blk} {k : List Value → Bool → Bool} (h : rowB x k = true) : ∃ c o, x = .row c o ∧ k c o = true := by
  cases x with
  | row c o => exact ⟨c, o, rfl, h⟩
  | _ => cases h
/-- a row that is read -/
noncomputable def rdB : Blk → (List Value → Bool) → Bool := fun x =>
  @Blk.rec (fun _ => (List Value → Bool) → Bool) (fun _ => false) (fun c _ k => k c) (fun c _ k => k c) (fun _ _ _ => false) (fun _ _ _ => false) (fun _ _ _ _ _ _ _ => false) (fun _ => false) x
theorem rdB_true {x : Blk} {k : List Value → Bool} (h : rdB x k = true) : ∃ c, ((∃ o, x = .row c o) ∨ ∃ t, x = .trow c t) ∧ k c = true := by
  cases x with
  | row c o => exact ⟨c, .inl ⟨o, rfl⟩, h⟩
  | trow c t => exact ⟨c, .inr ⟨t, rfl⟩, h⟩
  | _ => cases h
/-- a row that is written; where its type is known: the slow road -/
noncomputable def rowT : Blk → (List Value → Bool → Bool) → Bool → Bool := fun x =>
  @Blk.rec (fun _ => (List Value → Bool → Bool) → Bool → Bool) (fun _ _ => false) (fun c o k _ => k c o) (fun _ _ _ s => s) (fun _ _ _ _ => false) (fun _ _ _ _ => false) (fun _ _ _ _ _ _ _ _ => false) (fun _ _ => false) x
theorem rowT_true {x : Blk} {k : List Value → Bool → Bool} {s : Bool} (h : rowT x k s = true) : (∃ c o, x = .row c o ∧ k c o = true) ∨ s = true := by
  cases x with
  | row c o => exact .inl ⟨c, o, rfl, h⟩
  | trow c t => exact .inr h
  | _ => cases h
noncomputable def optB {α : Type} (x : Option α) (k : α → Bool) : Bool := @Option.rec α (fun _ => Bool) false k x
theorem optB_true {α : Type} {x : Option α} {k : α → Bool} (h : optB x k = true) : ∃ a, x = some a ∧ k a = true := by
  cases x with
  | none => cases h
  | some a => exact ⟨a, rfl, h⟩
noncomputable def optK (x : Option (Value × Hp)) (k : Value → Hp → Bool) : Bool := optB x fun p => @Prod.rec Value Hp (fun _ => Bool) k p
theorem optK_true {x : Option (Value × Hp)} {k : Value → Hp → Bool} (h : optK x k = true) : ∃ v H, x = some (v, H) ∧ k v H = true := by
  obtain ⟨⟨v, H⟩, h1, h2⟩ := optB_true h
  exact ⟨v, H, h1, h2⟩

/-! ### Lists of cells -/
noncomputable def nthC (x : Value) (_ : List Value) (ih : Nat → Option Value) (n : Nat) : Option Value := @Nat.rec (fun _ => Option Value) (some x) (fun m _ => ih m) n
noncomputable def nth (l : List Value) : Nat → Option Value := @List.rec Value (fun _ => Nat → Option Value) (fun _ => none) nthC l
theorem nth_eq (l : List Value) : ∀ n, nth l n = l[n]? := by
  induction l with
  | nil => intro n; simp [nth]
  | cons x l ih =>
    intro n
    cases n with
    | zero => rfl
    | succ n => show nth l n = _; rw [ih]; simp
/-- so many cells from the head on, if so many are there -/
noncomputable def takeS (_ : Nat) (ih : List Value → (List Value → Bool) → Bool) (l : List Value) (k : List Value → Bool) : Bool :=
  @List.rec Value (fun _ => Bool) false (fun x r _ => ih r fun y => k (x :: y)) l
noncomputable def takeK (n : Nat) : List Value → (List Value → Bool) → Bool := @Nat.rec (fun _ => List Value → (List Value → Bool) → Bool) (fun _ k => k []) takeS n
theorem takeK_true : ∀ {n : Nat} {l : List Value} {k : List Value → Bool}, takeK n l k = true → n ≤ l.length ∧ k (l.take n) = true := by
  intro n
  induction n with
  | zero => intro l k h; exact ⟨Nat.zero_le _, h⟩
  | succ n ih =>
    intro l k h
    cases l with
    | nil => cases h
    | cons x r =>
      have := ih (show takeK n r (fun y => k (x :: y)) = true from h)
      exact ⟨by simpa using this.1, by simpa using this.2⟩
noncomputable def dropS (_ : Nat) (ih : List Value → (List Value → Bool) → Bool) (l : List Value) (k : List Value → Bool) : Bool :=
  @List.rec Value (fun _ => Bool) false (fun _ r _ => ih r k) l
noncomputable def dropK (n : Nat) : List Value → (List Value → Bool) → Bool := @Nat.rec (fun _ => List Value → (List Value → Bool) → Bool) (fun l k => k l) dropS n
theorem dropK_true : ∀ {n : Nat} {l : List Value} {k : List Value → Bool}, dropK n l k = true → n ≤ l.length ∧ k (l.drop n) = true := by
  intro n
  induction n with
  | zero => intro l k h; exact ⟨Nat.zero_le _, h⟩
  | succ n ih =>
    intro l k h
    cases l with
    | nil => cases h
    | cons x r =>
      have := ih (show dropK n r k = true from h)
      exact ⟨by simpa using this.1, by simpa using this.2⟩
noncomputable def cellK (H : Hp) (a : Addr) (k : Value → Bool) : Bool := @Addr.rec (fun _ => Bool) (fun b o _ => rdB (getB H b) fun c => optB (nth c o) k) a
theorem cellK_true {H : Hp} {a : Addr} {k : Value → Bool} (h : cellK H a k = true) : ∃ v, H.cell? a = some v ∧ k v = true := by
  obtain ⟨b, o, s⟩ := a
  obtain ⟨c, h1, h2⟩ := rdB_true (show rdB (getB H b) (fun c => optB (nth c o) k) = true from h)
  obtain ⟨v, h3, h4⟩ := optB_true h2
  rw [getB_eq] at h1
  rw [nth_eq] at h3
  rcases h1 with ⟨_, h1⟩ | ⟨_, h1⟩
  · exact ⟨v, by simp only [Hp.cell?, h1, h3], h4⟩
  · exact ⟨v, by simp only [Hp.cell?, h1, h3], h4⟩
noncomputable def cellsK (H : Hp) (a : Addr) (n : Nat) (k : List Value → Bool) : Bool := @Addr.rec (fun _ => Bool) (fun b o _ => rdB (getB H b) fun c => dropK o c fun d => takeK n d k) a
theorem cellsK_true {H : Hp} {a : Addr} {n : Nat} {k : List Value → Bool} (h : cellsK H a n k = true) : ∃ v, H.cells? a n = some v ∧ k v = true := by
  obtain ⟨b, o, s⟩ := a
  obtain ⟨c, h1, h2⟩ := rdB_true (show rdB (getB H b) (fun c => dropK o c fun d => takeK n d k) = true from h)
  obtain ⟨h3, h4⟩ := dropK_true h2
  obtain ⟨h5, h6⟩ := takeK_true h4
  rw [getB_eq] at h1
  rw [List.length_drop] at h5
  rcases h1 with ⟨_, h1⟩ | ⟨_, h1⟩
  · exact ⟨_, by simp only [Hp.cells?, h1, if_pos (show o + n ≤ c.length by omega)], h6⟩
  · exact ⟨_, by simp only [Hp.cells?, h1, if_pos (show o + n ≤ c.length by omega)], h6⟩
end Go.Proofs.YtjmohjemgohlpaaGreatDoor.Am

/- The fast interpreter: operations and statements. -/
namespace Go.Proofs.YtjmohjemgohlpaaGreatDoor.Am
open Go

structure FO where
  cf : FuncId → List Value → Hp → (Value → Hp → Bool) → Bool
  rd : Nat → List Value → Hp → (Value → Hp → Bool) → Bool
  ex : CC → Fr → Hp → (Ex → Fr → Hp → Bool) → Bool
  own : FuncId → Bool

structure FOK (O : Oracle) (X : FO) : Prop where
  cf : ∀ f l H k, X.cf f l H k = true → ∃ v H', O.cf f l.toArray H = some (v, H') ∧ k v H' = true
  rd : ∀ f l H k, X.rd f l H k = true → ∃ v H', O.rd f l.toArray H = some (v, H') ∧ k v H' = true
  ex : ∀ c F H k, X.ex c F H k = true → ∃ e F' H', O.ex c F H = some (e, F', H') ∧ k e F' H' = true
  own : X.own = O.own

/-! ### Operations -/
abbrev FK := Value → Hp → Bool
noncomputable def gP (o : COp) (_ : FO) (F : Fr) (H : Hp) (k : FK) : Bool := optB (pureOp F o) fun v => k v H
noncomputable def gM (o : COp) (_ : FO) (F : Fr) (H : Hp) (k : FK) : Bool := optK (memOp F H o) k

noncomputable def movM (x : Operand) (_ : FO) (F : Fr) (H : Hp) (k : FK) : Bool := k (evalF x F) H
noncomputable def pickM (c a b : Operand) (_ : FO) (F : Fr) (H : Hp) (k : FK) : Bool := vBool (evalF c F) (k (evalF a F) H) (k (evalF b F) H)
noncomputable def newzM (z : List Value) (_ : FO) (_ : Fr) (H : Hp) (k : FK) : Bool := newB H (.row z true) fun b H' => k (.pointer (some ⟨b, 0, none⟩)) H'
noncomputable def cellsV : Value → List Value := fun v => @Value.rec (fun _ => List Value) (fun _ => PUnit) (fun _ => PUnit) (fun b => [.bool b]) (fun k n => [.int k n]) (fun k b => [.float k b]) (fun k r i => [.complex k r i]) (fun s => [.string s]) (fun a => [.pointer a]) (fun a l c => [.slice a l c]) (fun r => [.map r]) (fun r => [.chan r]) (fun f a c _ _ => [.func f a c]) ([.nilFunc]) (fun t v _ => [.iface t v]) ([.nilIface]) (fun a _ => a.toList) (fun a _ => [.tuple a]) (fun _ _ => PUnit.unit) PUnit.unit (fun _ _ _ _ => PUnit.unit) v
theorem cellsV_eq (v : Value) : cellsV v = v.cells.toList := by cases v <;> rfl
noncomputable def oneF : Value → Bool := fun v => @Value.rec (fun _ => Bool) (fun _ => PUnit) (fun _ => PUnit) (fun _ => true) (fun _ _ => true) (fun _ _ => true) (fun _ _ _ => true) (fun _ => true) (fun _ => true) (fun _ _ _ => true) (fun _ => true) (fun _ => true) (fun _ _ _ _ _ => true) (true) (fun _ _ _ => true) (true) (fun _ _ => false) (fun _ _ => false) (fun _ _ => PUnit.unit) PUnit.unit (fun _ _ _ _ => PUnit.unit) v
theorem oneF_eq (v : Value) : oneF v = oneCell v := by cases v <;> rfl
noncomputable def okNil : Value → Bool := fun v => @Value.rec (fun _ => Bool) (fun _ => PUnit) (fun _ => PUnit) (fun _ => false) (fun _ _ => false) (fun _ _ => false) (fun _ _ _ => false) (fun _ => false) (fun a => @Option.rec Addr (fun _ => Bool) false (fun _ => true) a) (fun _ _ _ => false) (fun _ => false) (fun _ => false) (fun f _ _ _ _ => @Fn.rec (fun _ => Bool) (fun _ => true) (fun _ => false) (fun _ _ => false) (fun _ _ _ _ => false) (fun _ => true) f) (false) (fun _ _ _ => true) (false) (fun _ _ => false) (fun _ _ => false) (fun _ _ => PUnit.unit) PUnit.unit (fun _ _ _ _ => PUnit.unit) v
noncomputable def putC (v : Value) (_ : List Value) (ih : List Value → (List Value → Bool) → Bool) (c : List Value) (k : List Value → Bool) : Bool := @List.rec Value (fun _ => Bool) false (fun _ r _ => ih r fun y => k (v :: y)) c
noncomputable def putL (vs : List Value) : List Value → (List Value → Bool) → Bool := @List.rec Value (fun _ => List Value → (List Value → Bool) → Bool) (fun c k => k c) putC vs
noncomputable def setS (_ : Nat) (ih : List Value → List Value → (List Value → Bool) → Bool) (vs c : List Value) (k : List Value → Bool) : Bool := @List.rec Value (fun _ => Bool) false (fun x r _ => ih vs r fun y => k (x :: y)) c
noncomputable def setK (off : Nat) : List Value → List Value → (List Value → Bool) → Bool := @Nat.rec (fun _ => List Value → List Value → (List Value → Bool) → Bool) putL setS off
theorem putL_true : ∀ {vs c : List Value} {k : List Value → Bool}, putL vs c k = true → vs.length ≤ c.length ∧ k (vs ++ c.drop vs.length) = true := by
  intro vs
  induction vs with
  | nil => intro c k h; exact ⟨Nat.zero_le _, h⟩
  | cons v vs ih =>
    intro c k h
    cases c with
    | nil => cases h
    | cons x r =>
      have := ih (show putL vs r (fun y => k (v :: y)) = true from h)
      exact ⟨by simpa using this.1, by simpa using this.2⟩
theorem setK_true : ∀ {off : Nat} {vs c : List Value} {k : List Value → Bool}, setK off vs c k = true → off + vs.length ≤ c.length ∧ k (setAll c off vs) = true := by
  intro off
  induction off with
  | zero => intro vs c k h; have := putL_true (show putL vs c k = true from h); exact ⟨by omega, by simpa [setAll] using this.2⟩
  | succ off ih =>
    intro vs c k h
    cases c with
    | nil => cases h
    | cons x r =>
      have := ih (show setK off vs r (fun y => k (x :: y)) = true from h)
      exact ⟨by simp only [List.length_cons]; omega, by simpa [setAll] using this.2⟩
noncomputable def lenC (_ : Value) (_ : List Value) (ih : Nat) : Nat := Nat.succ ih
noncomputable def lenF (l : List Value) : Nat := @List.rec Value (fun _ => Nat) 0 lenC l
theorem lenF_eq (l : List Value) : lenF l = l.length := by
  induction l with
  | nil => rfl
  | cons x l ih => show Nat.succ (lenF l) = _; rw [ih]; rfl
noncomputable def allC (v : Value) (_ : List Value) (ih : Bool) : Bool := bc (oneF v) ih false
noncomputable def allF (l : List Value) : Bool := @List.rec Value (fun _ => Bool) true allC l
theorem allF_eq (l : List Value) : allF l = l.all oneCell := by
  induction l with
  | nil => rfl
  | cons x l ih =>
    show bc (oneF x) (allF l) false = _
    rw [ih, oneF_eq, bc_eq, List.all_cons]
    cases oneCell x <;> rfl
noncomputable def catC (v : Value) (_ : List Value) (ih : List Value → List Value) (c : List Value) : List Value := v :: ih c
noncomputable def catF (l : List Value) : List Value → List Value := @List.rec Value (fun _ => List Value → List Value) (fun c => c) catC l
theorem catF_eq (l c : List Value) : catF l c = l ++ c := by
  induction l with
  | nil => rfl
  | cons x l ih => show x :: catF l c = _; rw [ih]; rfl
abbrev PT := Nat × Nat × Operand
noncomputable def fillC (p : PT) (_ : List PT) (ih : Fr → List Value → (List Value → Bool) → Bool) (F : Fr) (c : List Value) (k : List Value → Bool) : Bool :=
  bc (Nat.beq (lenF (cellsV (evalF p.2.2 F))) p.2.1) (setK p.1 (cellsV (evalF p.2.2 F)) c fun c' => ih F c' k) false
noncomputable def fillK (ps : List PT) : Fr → List Value → (List Value → Bool) → Bool := @List.rec PT (fun _ => Fr → List Value → (List Value → Bool) → Bool) (fun _ c k => k c) fillC ps
theorem fillK_true : ∀ {ps : List PT} {F : Fr} {c : List Value} {k : List Value → Bool}, fillK ps F c k = true → ∃ c', fillA c (ps.map fun p => (p.1, p.2.1, evalF p.2.2 F)) = some c' ∧ k c' = true := by
  intro ps
  induction ps with
  | nil => intro F c k h; exact ⟨c, rfl, h⟩
  | cons p ps ih =>
    intro F c k h
    rcases bc_true (show bc (Nat.beq (lenF (cellsV (evalF p.2.2 F))) p.2.1) (setK p.1 (cellsV (evalF p.2.2 F)) c fun c' => fillK ps F c' k) false = true from h) with ⟨h1, h2⟩ | ⟨_, h2⟩
    · obtain ⟨h3, h4⟩ := setK_true h2
      obtain ⟨c', h5, h6⟩ := ih h4
      have h7 := Nat.eq_of_beq_eq_true h1
      rw [lenF_eq] at h7
      rw [cellsV_eq] at h3 h5 h7
      refine ⟨c', ?_, h6⟩
      simp only [List.map_cons, fillA]
      rw [if_pos ⟨h7, by omega⟩]; exact h5
    · cases h2
noncomputable def boxM (x : Operand) (_ : FO) (F : Fr) (H : Hp) (k : FK) : Bool := newB H (.row (cellsV (evalF x F)) true) fun b H' => k (.pointer (some ⟨b, 0, none⟩)) H'
noncomputable def litsM (z : List Value) (n : Nat) (ps : List (Nat × Nat × Operand)) (_ : FO) (F : Fr) (H : Hp) (k : FK) : Bool :=
  fillK ps F z fun cs => newB H (.row cs true) fun b H' => k (.slice (some ⟨b, 0, some 0⟩) n n) H'
noncomputable def ld1M (a : Operand) (_ : FO) (F : Fr) (H : Hp) (k : FK) : Bool := vPtr (evalF a F) fun a => cellK H a fun v => k v H
noncomputable def ldM (n : Nat) (a : Operand) (_ : FO) (F : Fr) (H : Hp) (k : FK) : Bool := vPtr (evalF a F) fun a => cellsK H a n fun cs => k (.agg ⟨cs⟩) H
noncomputable def stM (n : Nat) (p v : Operand) (X : FO) (F : Fr) (H : Hp) (k : FK) : Bool :=
  vPtr (evalF p F) fun a => bc (Nat.beq (lenF (cellsV (evalF v F))) n) (@Addr.rec (fun _ => Bool) (fun b o _ => rowT (getB H b) (fun c own => bc own (bc (allF (cellsV (evalF v F))) (setK o (cellsV (evalF v F)) c fun c' => updB H b (.row c' true) fun H' => k undef H') false) false) (gM (.st n p v) X F H k)) a) false
noncomputable def kindCode (k : IntKind) : Nat := @IntKind.rec (fun _ => Nat) 0 1 2 3 4 5 6 7 k
theorem kindCode_inj {a b : IntKind} (h : Nat.beq (kindCode a) (kindCode b) = true) : a = b := by cases a <;> cases b <;> first | rfl | (cases h)
abbrev BT := IntKind → Nat → Nat → (Value → Bool) → Bool → Bool
noncomputable def slowB (_ : IntKind) (_ _ : Nat) (_ : Value → Bool) (slow : Bool) : Bool := slow
noncomputable def addB (kk : IntKind) (m n : Nat) (k : Value → Bool) (slow : Bool) : Bool := bc (Nat.beq (kindCode kk) 3) (bc (Nat.ble (Nat.add m n) 1000000000) (k (.int kk (Int.ofNat (Nat.add m n)))) slow) slow
noncomputable def subB (kk : IntKind) (m n : Nat) (k : Value → Bool) (slow : Bool) : Bool := bc (Nat.beq (kindCode kk) 3) (bc (Nat.ble n m) (bc (Nat.ble m 1000000000) (k (.int kk (Int.ofNat (Nat.sub m n)))) slow) slow) slow
noncomputable def eqlB (_ : IntKind) (m n : Nat) (k : Value → Bool) (_ : Bool) : Bool := k (.bool (Nat.beq m n))
noncomputable def neqB (_ : IntKind) (m n : Nat) (k : Value → Bool) (_ : Bool) : Bool := k (.bool (not (Nat.beq m n)))
noncomputable def lssB (_ : IntKind) (m n : Nat) (k : Value → Bool) (_ : Bool) : Bool := k (.bool (Nat.ble (Nat.succ m) n))
noncomputable def leqB (_ : IntKind) (m n : Nat) (k : Value → Bool) (_ : Bool) : Bool := k (.bool (Nat.ble m n))
noncomputable def gtrB (_ : IntKind) (m n : Nat) (k : Value → Bool) (_ : Bool) : Bool := k (.bool (Nat.ble (Nat.succ n) m))
noncomputable def geqB (_ : IntKind) (m n : Nat) (k : Value → Bool) (_ : Bool) : Bool := k (.bool (Nat.ble n m))
/-- an operation on two numbers that are not negative; none: the slow road -/
noncomputable def fastBin : BinOp → BT := fun op => @BinOp.rec (fun _ => BT) addB subB slowB slowB slowB slowB slowB slowB slowB slowB slowB eqlB neqB lssB leqB gtrB geqB op
noncomputable def binM (op : BinOp) (x y : Operand) (_ : FO) (F : Fr) (H : Hp) (k : FK) : Bool :=
  vIntD (evalF x F) (fun k1 a => vIntD (evalF y F) (fun k2 b => bc (Nat.beq (kindCode k1) (kindCode k2))
    (@Int.rec (fun _ => Bool) (fun m => @Int.rec (fun _ => Bool) (fun n => fastBin op k1 m n (fun v => k v H) (optB (binV op (evalF x F) (evalF y F)) fun v => k v H)) (fun _ => optB (binV op (evalF x F) (evalF y F)) fun v => k v H) b) (fun _ => optB (binV op (evalF x F) (evalF y F)) fun v => k v H) a)
    (optB (binV op (evalF x F) (evalF y F)) fun v => k v H)) false)
    (optB (binV op (evalF x F) (evalF y F)) fun v => k v H)
noncomputable def nilckM (x : Operand) (_ : FO) (F : Fr) (H : Hp) (k : FK) : Bool := bc (okNil (evalF x F)) (k (evalF x F) H) false
noncomputable def notM (x : Operand) (_ : FO) (F : Fr) (H : Hp) (k : FK) : Bool := vBool (evalF x F) (k (.bool false) H) (k (.bool true) H)
noncomputable def unM (op : UnOp) : Operand → FO → Fr → Hp → FK → Bool := @UnOp.rec (fun _ => Operand → FO → Fr → Hp → FK → Bool) (fun x => gP (.un .neg x)) (fun x => gP (.un .xor x)) notM (fun x => gP (.un .plus x)) op
noncomputable def cviM (kk : IntKind) (x : Operand) (_ : FO) (F : Fr) (H : Hp) (k : FK) : Bool :=
  vIntD (evalF x F) (fun _ n => bc (Nat.beq (kindCode kk) 3) (@Int.rec (fun _ => Bool) (fun m => bc (Nat.ble m 1000000000) (k (.int kk (Int.ofNat m)) H) (k (.int kk (kk.wrap n)) H)) (fun _ => k (.int kk (kk.wrap n)) H) n) (k (.int kk (kk.wrap n)) H)) false
noncomputable def slM (size : Nat) (x : Operand) (lo hi mx : Option Operand) (_ : FO) (F : Fr) (H : Hp) (k : FK) : Bool :=
  optB (sliceV size (evalF x F) (lo.map fun o => evalF o F) (hi.map fun o => evalF o F) (mx.map fun o => evalF o F)) fun v => k v H
noncomputable def fadM (x : Operand) (off : Nat) (_ : FO) (F : Fr) (H : Hp) (k : FK) : Bool :=
  vPtr (evalF x F) fun a => @Addr.rec (fun _ => Bool) (fun b o _ => k (.pointer (some ⟨b, Nat.add o off, none⟩)) H) a
noncomputable def fld1M (x : Operand) (off : Nat) (_ : FO) (F : Fr) (H : Hp) (k : FK) : Bool :=
  vAgg (evalF x F) fun cs => optB (nth cs.toList off) fun v => k v H
noncomputable def iadM (size : Nat) (x i : Operand) (_ : FO) (F : Fr) (H : Hp) (k : FK) : Bool :=
  vSlice (evalF x F) fun a len _ => optB a fun a => vIntD (evalF i F) (fun _ i => @Int.rec (fun _ => Bool) (fun m => bc (Nat.ble (Nat.succ m) len) (@Addr.rec (fun _ => Bool) (fun b o _ => k (.pointer (some ⟨b, Nat.add o (Nat.mul m size), none⟩)) H) a) false) (fun _ => false) i) false
noncomputable def idsM (x i : Operand) (_ : FO) (F : Fr) (H : Hp) (k : FK) : Bool :=
  vStr (evalF x F) fun s => vIntD (evalF i F) (fun _ i => @Int.rec (fun _ => Bool) (fun m => optB (s[m]?) fun b => k (.int .u8 (Int.ofNat b.toNat)) H) (fun _ => false) i) false
noncomputable def extM (x : Operand) (i : Nat) (_ : FO) (F : Fr) (H : Hp) (k : FK) : Bool :=
  vTuple (evalF x F) fun vs => optB (nth vs.toList i) fun v => k v H
noncomputable def lnsM (x : Operand) (_ : FO) (F : Fr) (H : Hp) (k : FK) : Bool := vStr (evalF x F) fun s => k (.int .i64 (Int.ofNat s.size)) H
noncomputable def lnlM (x : Operand) (_ : FO) (F : Fr) (H : Hp) (k : FK) : Bool := vSlice (evalF x F) fun _ n _ => k (.int .i64 (Int.ofNat n)) H
/-! appending -/
noncomputable def spotB (x : Option Nat) (size : Nat) (ex rm : Bool) : Bool := @Option.rec Nat (fun _ => Bool) false (fun n => @Nat.rec (fun _ => Bool) ex (fun k _ => bc (Nat.beq k size) rm false) n) x
noncomputable def appOld (H : Hp) (size : Nat) (a : Addr) (len : Nat) (k : List Value → Bool) : Bool := @Nat.rec (fun _ => Bool) (k []) (fun _ _ => cellsK H a (Nat.mul len size) k) len
noncomputable def appAt (size len cap n : Nat) (new : List Value) (H : Hp) (k : FK) (slow : Bool) (a : Addr) : Bool :=
  @Addr.rec (fun _ => Bool) (fun b o sp => spotB sp size
    (bc (Nat.ble (Nat.succ cap) (Nat.add len n)) (appOld H size ⟨b, o, sp⟩ len fun old => newB H (.row (catF old new) true) fun b' H' => k (.slice (some ⟨b', 0, some (Nat.succ size)⟩) (Nat.add len n) (Nat.add len n)) H') slow)
    (bc (Nat.ble 1 cap) (bc (Nat.beq o 0) (rowB (getB H b) fun _ own => bc own (appOld H size ⟨b, o, sp⟩ len fun old => updB H b .dead fun H1 => newB H1 (.row (catF old new) true) fun b' H' => k (.slice (some ⟨b', 0, some (Nat.succ size)⟩) (Nat.add len n) (Nat.add len n)) H') false) slow) slow)) a
noncomputable def appN (size bytes : Nat) (n : Nat) (new : List Value) (sv : Value) (H : Hp) (k : FK) (slow : Bool) : Bool :=
  vSlice sv fun base len cap => bc (Nat.ble (Nat.mul (Nat.add (Nat.mul 4 (Nat.add len n)) 4096) bytes) 140737488355328)
    (@Option.rec Addr (fun _ => Bool) (bc (Nat.beq cap 0) (bc (Nat.beq len 0) (newB H (.row new true) fun b' H' => k (.slice (some ⟨b', 0, some (Nat.succ size)⟩) n n) H') slow) slow) (appAt size len cap n new H k slow) base) slow
noncomputable def appM0 (size bytes : Nat) (s x : Operand) (X : FO) (F : Fr) (H : Hp) (k : FK) : Bool :=
  vSlice (evalF x F) fun xb n _ => bc (Nat.beq n 0) (gM (.app size bytes none s x) X F H k)
    (optB xb fun a => cellsK H a (Nat.mul n size) fun new => bc (allF new) (appN size bytes n new (evalF s F) H k (gM (.app size bytes none s x) X F H k)) false)
noncomputable def appM (size bytes : Nat) (eo : Option TypeId) : Operand → Operand → FO → Fr → Hp → FK → Bool :=
  @Option.rec TypeId (fun _ => Operand → Operand → FO → Fr → Hp → FK → Bool) (appM0 size bytes) (fun t s x => gM (.app size bytes (some t) s x)) eo
theorem spotB_true {x : Option Nat} {size : Nat} {ex rm : Bool} (h : spotB x size ex rm = true) : (x = some 0 ∧ ex = true) ∨ (x = some (size + 1) ∧ rm = true) := by
  cases x with
  | none => cases h
  | some n => cases n with
    | zero => exact .inl ⟨rfl, h⟩
    | succ k =>
      rcases bc_true (show bc (Nat.beq k size) rm false = true from h) with ⟨h1, h2⟩ | ⟨_, h2⟩
      · have := Nat.eq_of_beq_eq_true h1; subst this; exact .inr ⟨rfl, h2⟩
      · cases h2
theorem appOld_true {H : Hp} {size : Nat} {a : Addr} {len : Nat} {k : List Value → Bool} (h : appOld H size a len k = true) : ∃ old, oldCells H size (some a) len = some old ∧ k old = true := by
  cases len with
  | zero => exact ⟨[], rfl, h⟩
  | succ l =>
    obtain ⟨old, h1, h2⟩ := cellsK_true (show cellsK H a (Nat.mul (l + 1) size) k = true from h)
    exact ⟨old, by simp only [oldCells]; exact h1, h2⟩
theorem appN_true {size bytes n : Nat} {new : List Value} {sv : Value} {H : Hp} {k : FK} {slow : Bool} (hn : n ≠ 0) (h : appN size bytes n new sv H k slow = true) : slow = true ∨ ∃ v H', appendTo H size bytes none sv n new = some (v, H') ∧ k v H' = true := by
  obtain ⟨base, len, cap, rfl, h1⟩ := vSlice_true h
  rcases bc_true h1 with ⟨h2, h3⟩ | ⟨_, h3⟩
  · have hb : ¬ 2 ^ 47 < (4 * (len + n) + 4096) * bytes := by
      have : (4 * (len + n) + 4096) * bytes ≤ 140737488355328 := Nat.le_of_ble_eq_true h2
      omega
    cases base with
    | none =>
      rcases bc_true h3 with ⟨h4, h5⟩ | ⟨_, h5⟩
      · rcases bc_true h5 with ⟨h6, h7⟩ | ⟨_, h7⟩
        · have e1 := Nat.eq_of_beq_eq_true h4
          have e2 := Nat.eq_of_beq_eq_true h6
          subst e1 e2
          refine .inr ⟨_, _, ?_, newB_true h7⟩
          simp only [appendTo, if_neg hn, if_neg hb, oldCells, if_true, roomy, mkRow]
        · exact .inl h7
      · exact .inl h5
    | some a =>
      obtain ⟨b, o, sp⟩ := a
      rcases spotB_true (show spotB sp size _ _ = true from h3) with ⟨rfl, h4⟩ | ⟨rfl, h4⟩
      · rcases bc_true h4 with ⟨h5, h6⟩ | ⟨_, h6⟩
        · obtain ⟨old, h7, h8⟩ := appOld_true h6
          have h9 := newB_true h8
          rw [catF_eq] at h9
          refine .inr ⟨_, _, ?_, h9⟩
          have hc : cap < len + n := Nat.le_of_ble_eq_true h5
          simp only [appendTo, if_neg hn, if_neg hb, h7, isExact, if_true, if_pos hc, roomy, mkRow]; rfl
        · exact .inl h6
      · rcases bc_true h4 with ⟨h5, h6⟩ | ⟨_, h6⟩
        · rcases bc_true h6 with ⟨h7, h8⟩ | ⟨_, h8⟩
          · obtain ⟨row, own, h9, h10⟩ := rowB_true h8
            rcases bc_true h10 with ⟨rfl, h11⟩ | ⟨_, h11⟩
            · obtain ⟨old, h12, h13⟩ := appOld_true h11
              rw [updB_eq] at h13
              have h14 := newB_true h13
              rw [catF_eq] at h14
              rw [getB_eq] at h9
              have e1 := Nat.eq_of_beq_eq_true h7
              subst e1
              refine .inr ⟨_, _, ?_, h14⟩
              have hc : Nat.blt 0 cap = true := h5
              have hs : isRoomy (⟨b, 0, some (size + 1)⟩ : Addr) size = true := by simp [isRoomy]
              simp only [appendTo, if_neg hn, if_neg hb, h12, isExact, Bool.false_eq_true, if_false, hs, hc, Bool.and_self, if_true, h9, roomy]; rfl
            · cases h11
          · exact .inl h8
        · exact .inl h6
  · exact .inl h3
noncomputable def callVF (X : FO) (H : Hp) (f : Value) (args : List Value) (k : FK) : Bool :=
  vFunc f fun fn first cap => @Fn.rec (fun _ => Bool) (fun g => X.cf g (first.toList ++ (args ++ cap.toList)) H k) (fun _ => false) (fun _ _ => false) (fun _ _ _ _ => false) (fun l => X.rd l (first.toList ++ args) H k) fn
noncomputable def callM (f : Operand) (args : List Operand) (X : FO) (F : Fr) (H : Hp) (k : FK) : Bool := callVF X H (evalF f F) (evalsF args F) k
noncomputable def badM (_ : FO) (_ : Fr) (_ : Hp) (_ : FK) : Bool := false

noncomputable def fopA : COp → FO → Fr → Hp → FK → Bool := fun o =>
  @COp.rec (fun _ => FO → Fr → Hp → FK → Bool)
    movM pickM newzM boxM (fun z ps => gP (.agg z ps)) litsM ld1M ldM stM nilckM binM (fun n x y => gP (.eqb n x y)) (fun k n c x y => gP (.eqn k n c x y)) (fun n ks x y => gP (.eqc n ks x y))
    unM cviM (fun x => gP (.cvs x)) (fun x => gM (.cvb x)) (fun x => gM (.cvt x)) (fun t x => gP (.ifc t x)) (fun f a b => gP (.fn f a b)) (gM .mkm) (fun b z l c => gM (.mks b z l c))
    slM (fun n s x l h m => gP (.sla n s x l h m)) (fun x l h => gP (.sls x l h)) fadM fld1M (fun x o n => gP (.fldn x o n)) iadM (fun l s x i => gP (.iaa l s x i)) (fun l s x i => gP (.ida1 l s x i)) (fun l s x i => gP (.idan l s x i)) idsM
    (fun kd z m k ok => gM (.lkp kd z m k ok)) (fun kd m k v => gM (.mup kd m k v)) (fun x => gM (.itr x)) (fun x => gM (.nxt x)) extM lnsM lnlM (fun n => gP (.lnc n)) (fun x => gM (.lnm x)) (fun x => gP (.cap x))
    appM (fun b z s x => gM (.apz b z s x)) (fun e s x => gM (.aps e s x)) (fun t z => gM (.newt t z)) (fun x => gM (.tou x)) (fun t n x => gM (.fru t n x)) (fun x => gP (.usd x)) (fun t x n => gM (.ust t x n)) (fun m xs => gP (.mnx m xs)) callM badM o

theorem gP_sound {o : COp} {O : Oracle} {X : FO} {F : Fr} {H : Hp} {k : FK} (hp : opA O F H o = (pureOp F o).map fun v => (v, H)) (h : gP o X F H k = true) : ∃ v H', opA O F H o = some (v, H') ∧ k v H' = true := by
  obtain ⟨v, h1, h2⟩ := optB_true h
  exact ⟨v, H, by rw [hp, h1]; rfl, h2⟩
theorem gM_sound {o : COp} {O : Oracle} {X : FO} {F : Fr} {H : Hp} {k : FK} (hp : opA O F H o = memOp F H o) (h : gM o X F H k = true) : ∃ v H', opA O F H o = some (v, H') ∧ k v H' = true := by
  obtain ⟨v, H', h1, h2⟩ := optK_true h
  exact ⟨v, H', by rw [hp, h1], h2⟩

theorem wrap_small {n : Nat} (h : n ≤ 1000000000) : IntKind.wrap .i64 (n : Int) = n := by
  simp [IntKind.wrap, IntKind.bits, IntKind.signed]
  omega
theorem beq_no {m n : Nat} (h : ¬ m = n) : Nat.beq m n = false := by
  cases e : Nat.beq m n with
  | false => rfl
  | true => exact absurd (Nat.eq_of_beq_eq_true e) h
theorem ble_no {m n : Nat} (h : ¬ m ≤ n) : Nat.ble m n = false := by
  cases e : Nat.ble m n with
  | false => rfl
  | true => exact absurd (Nat.le_of_ble_eq_true e) h

theorem fastBin_true {op : BinOp} {kk : IntKind} {m n : Nat} {k : Value → Bool} {slow : Bool} (h : fastBin op kk m n k slow = true) : slow = true ∨ ∃ v, binV op (.int kk m) (.int kk n) = some v ∧ k v = true := by
  cases op <;> first | exact .inl h | skip
  · rcases bc_true h with ⟨h1, h⟩ | ⟨_, h⟩
    · rcases bc_true h with ⟨h2, h⟩ | ⟨_, h⟩
      · have hk : kk = .i64 := kindCode_inj (b := .i64) h1
        subst hk
        have h3 : m + n ≤ 1000000000 := Nat.le_of_ble_eq_true h2
        refine .inr ⟨_, ?_, h⟩
        have := wrap_small h3
        simp only [binV, binInt, if_pos]
        rw [show ((m : Int) + (n : Int)) = ((m + n : Nat) : Int) by omega, this]; rfl
      · exact .inl h
    · exact .inl h
  · rcases bc_true h with ⟨h1, h⟩ | ⟨_, h⟩
    · rcases bc_true h with ⟨h2, h⟩ | ⟨_, h⟩
      · rcases bc_true h with ⟨h4, h⟩ | ⟨_, h⟩
        · have hk : kk = .i64 := kindCode_inj (b := .i64) h1
          subst hk
          have h3 : n ≤ m := Nat.le_of_ble_eq_true h2
          have h5 : m ≤ 1000000000 := Nat.le_of_ble_eq_true h4
          refine .inr ⟨_, ?_, h⟩
          have := wrap_small (n := m - n) (by omega)
          simp only [binV, binInt, if_pos]
          rw [show ((m : Int) - (n : Int)) = ((m - n : Nat) : Int) by omega, this]; rfl
        · exact .inl h
      · exact .inl h
    · exact .inl h
  · refine .inr ⟨_, ?_, h⟩
    simp only [binV, binInt, if_pos]
    congr 2
    by_cases e : m = n
    · subst e; simp
    · have : ((m : Int) == (n : Int)) = false := by simp; omega
      rw [this, beq_no e]; try rfl
  · refine .inr ⟨_, ?_, h⟩
    simp only [binV, binInt, if_pos]
    congr 2
    by_cases e : m = n
    · subst e; simp
    · have : ((m : Int) != (n : Int)) = true := by simp; omega
      rw [this, beq_no e]; try rfl
  · refine .inr ⟨_, ?_, h⟩
    simp only [binV, binInt, if_pos]
    congr 2
    by_cases e : m < n
    · rw [Nat.ble_eq_true_of_le e]; simp; omega
    · have : Nat.ble (Nat.succ m) n = false := ble_no (by omega)
      rw [this]; simp; omega
  · refine .inr ⟨_, ?_, h⟩
    simp only [binV, binInt, if_pos]
    congr 2
    by_cases e : m ≤ n
    · rw [Nat.ble_eq_true_of_le e]; simp; omega
    · have : Nat.ble m n = false := ble_no (by omega)
      rw [this]; simp; omega
  · refine .inr ⟨_, ?_, h⟩
    simp only [binV, binInt, if_pos]
    congr 2
    by_cases e : n < m
    · rw [Nat.ble_eq_true_of_le e]; simp; omega
    · have : Nat.ble (Nat.succ n) m = false := ble_no (by omega)
      rw [this]; simp; omega
  · refine .inr ⟨_, ?_, h⟩
    simp only [binV, binInt, if_pos]
    congr 2
    by_cases e : n ≤ m
    · rw [Nat.ble_eq_true_of_le e]; simp; omega
    · have : Nat.ble n m = false := ble_no (by omega)
      rw [this]; simp; omega

theorem fopA_sound {O : Oracle} {X : FO} (hX : FOK O X) {o : COp} {F : Fr} {H : Hp} {k : FK} (h : fopA o X F H k = true) : ∃ v H', opA O F H o = some (v, H') ∧ k v H' = true := by
  cases o <;> first | exact gP_sound (X := X) rfl h | exact gM_sound (X := X) rfl h | skip
  case mov x => exact ⟨_, _, rfl, by rw [← evalF_eq]; exact h⟩
  case pick c a b =>
    rcases vBool_true (show vBool (evalF c F) (k (evalF a F) H) (k (evalF b F) H) = true from h) with ⟨h1, h2⟩ | ⟨h1, h2⟩
    · rw [evalF_eq] at h1 h2; exact ⟨_, _, by simp only [opA, COp.isPure, if_true, pureOp, h1, Option.map_some], h2⟩
    · rw [evalF_eq] at h1 h2; exact ⟨_, _, by simp only [opA, COp.isPure, if_true, pureOp, h1, Option.map_some], h2⟩
  case newz z => exact ⟨_, _, rfl, newB_true (show newB H (.row z true) (fun b H' => k (.pointer (some ⟨b, 0, none⟩)) H') = true from h)⟩
  case box x =>
    have := newB_true (show newB H (.row (cellsV (evalF x F)) true) (fun b H' => k (.pointer (some ⟨b, 0, none⟩)) H') = true from h)
    rw [cellsV_eq, evalF_eq] at this
    exact ⟨_, _, rfl, this⟩
  case lits z n ps =>
    obtain ⟨cs, h1, h2⟩ := fillK_true (show fillK ps F z (fun cs => newB H (.row cs true) fun b H' => k (.slice (some ⟨b, 0, some 0⟩) n n) H') = true from h)
    simp only [evalF_eq] at h1
    refine ⟨_, _, ?_, newB_true h2⟩
    show memOp F H (.lits z n ps) = _
    simp only [memOp, h1, Option.map_some, exact]
  case ld1 a =>
    obtain ⟨a', h1, h2⟩ := vPtr_true (show vPtr (evalF a F) (fun a => cellK H a fun v => k v H) = true from h)
    obtain ⟨v, h3, h4⟩ := cellK_true h2
    rw [evalF_eq] at h1
    refine ⟨v, H, ?_, h4⟩
    show memOp F H (.ld1 a) = _
    simp only [memOp, h1, h3, Option.map_some]
  case ld n a =>
    obtain ⟨a', h1, h2⟩ := vPtr_true (show vPtr (evalF a F) (fun a => cellsK H a n fun cs => k (.agg ⟨cs⟩) H) = true from h)
    obtain ⟨v, h3, h4⟩ := cellsK_true h2
    rw [evalF_eq] at h1
    refine ⟨_, H, ?_, h4⟩
    show memOp F H (.ld n a) = _
    simp only [memOp, h1, h3, Option.map_some]
  case st n a v =>
    obtain ⟨⟨b, o, sp⟩, h1, h2⟩ := vPtr_true (show vPtr (evalF a F) _ = true from h)
    rcases bc_true h2 with ⟨h3, h4⟩ | ⟨_, h4⟩
    · rcases rowT_true (show rowT (getB H b) _ (gM (.st n a v) X F H k) = true from h4) with ⟨c, own, h5, h6⟩ | hslow
      case inr => exact gM_sound (X := X) rfl hslow
      rcases bc_true h6 with ⟨rfl, h7⟩ | ⟨_, h7⟩
      · rcases bc_true h7 with ⟨h8, h9⟩ | ⟨_, h9⟩
        · obtain ⟨h10, h11⟩ := setK_true h9
          rw [updB_eq] at h11
          rw [evalF_eq] at h1
          have h3' := Nat.eq_of_beq_eq_true h3
          rw [lenF_eq] at h3'
          rw [allF_eq] at h8
          rw [cellsV_eq, evalF_eq] at h3' h8 h10 h11
          rw [getB_eq] at h5
          refine ⟨_, _, ?_, h11⟩
          show memOp F H (.st n a v) = _
          simp only [memOp, h1]
          rw [if_pos h3']
          simp only [Hp.setCells, h5]
          rw [if_pos ⟨h10, h8⟩]; rfl
        · cases h9
      · cases h7
    · cases h4
  case nilck x =>
    rcases bc_true (show bc (okNil (evalF x F)) (k (evalF x F) H) false = true from h) with ⟨h1, h2⟩ | ⟨_, h2⟩
    · rw [evalF_eq] at h1 h2
      refine ⟨_, H, ?_, h2⟩
      simp only [opA, COp.isPure, if_true, pureOp]
      generalize F.eval x = v at h1
      cases v with
      | pointer a => cases a with
        | none => cases h1
        | some a => rfl
      | func f a c => cases f <;> first | rfl | (cases h1)
      | iface t v => rfl
      | _ => cases h1
    · cases h2
  case un op x =>
    have gen : gP (.un op x) X F H k = true → ∃ v H', opA O F H (.un op x) = some (v, H') ∧ k v H' = true := gP_sound (X := X) rfl
    cases op with
    | not =>
      rcases vBool_true (show vBool (evalF x F) (k (.bool false) H) (k (.bool true) H) = true from h) with ⟨h1, h2⟩ | ⟨h1, h2⟩
      · rw [evalF_eq] at h1; exact ⟨_, H, by simp only [opA, COp.isPure, if_true, pureOp, h1, unV, Option.map_some]; rfl, h2⟩
      · rw [evalF_eq] at h1; exact ⟨_, H, by simp only [opA, COp.isPure, if_true, pureOp, h1, unV, Option.map_some]; rfl, h2⟩
    | neg => exact gen h
    | xor => exact gen h
    | plus => exact gen h
  case bin op x y =>
    have slow : ∀ {k' : Value → Bool}, (optB (binV op (evalF x F) (evalF y F)) fun v => k v H) = true → ∃ v H', opA O F H (.bin op x y) = some (v, H') ∧ k v H' = true := by
      intro _ h
      obtain ⟨v, h1, h2⟩ := optB_true h
      rw [evalF_eq, evalF_eq] at h1
      exact ⟨v, H, by simp only [opA, COp.isPure, if_true, pureOp, h1, Option.map_some], h2⟩
    have h' : binM op x y X F H k = true := h
    unfold binM at h'
    rcases vIntD_true h' with ⟨k1, a, h1, h2⟩ | ⟨_, h2⟩
    · rcases vIntD_true h2 with ⟨k2, b, h3, h4⟩ | ⟨_, h4⟩
      · rcases bc_true h4 with ⟨h5, h6⟩ | ⟨_, h6⟩
        · have := kindCode_inj h5
          subst this
          cases a with
          | negSucc _ => exact slow (k' := fun _ => true) h6
          | ofNat m => cases b with
            | negSucc _ => exact slow (k' := fun _ => true) h6
            | ofNat n =>
              rcases fastBin_true (show fastBin op k1 m n (fun v => k v H) (optB (binV op (evalF x F) (evalF y F)) fun v => k v H) = true from h6) with h7 | ⟨v, h7, h8⟩
              · exact slow (k' := fun _ => true) h7
              · rw [evalF_eq] at h1 h3
                refine ⟨v, H, ?_, h8⟩
                simp only [opA, COp.isPure, if_true, pureOp, h1, h3]
                rw [show binV op (.int k1 (Int.ofNat m)) (.int k1 (Int.ofNat n)) = some v from h7]; rfl
        · exact slow (k' := fun _ => true) h6
      · cases h4
    · exact slow (k' := fun _ => true) h2
  case app size bytes eo sx x =>
    cases eo with
    | some t => exact gM_sound (X := X) rfl h
    | none =>
    have gen : gM (.app size bytes none sx x) X F H k = true → ∃ v H', opA O F H (.app size bytes none sx x) = some (v, H') ∧ k v H' = true := gM_sound (X := X) rfl
    obtain ⟨xb, n, cap, h1, h2⟩ := vSlice_true (show vSlice (evalF x F) _ = true from h)
    rcases bc_true h2 with ⟨_, h3⟩ | ⟨h3, h4⟩
    · exact gen h3
    · have hn : n ≠ 0 := fun e => by rw [e] at h3; cases h3
      obtain ⟨a, rfl, h5⟩ := optB_true h4
      obtain ⟨new, h6, h7⟩ := cellsK_true h5
      rcases bc_true h7 with ⟨h8, h9⟩ | ⟨_, h9⟩
      · rcases appN_true hn h9 with h10 | ⟨v, H', h10, h11⟩
        · exact gen h10
        · rw [evalF_eq] at h1 h10
          rw [allF_eq] at h8
          refine ⟨v, H', ?_, h11⟩
          show memOp F H (.app size bytes none sx x) = _
          have h6' : H.cells? a (n * size) = some new := h6
          simp only [memOp, h1, if_neg hn, h6', Option.bind_some, h8, if_true]; exact h10
      · cases h9
  case cvi kk x =>
    rcases vIntD_true (show vIntD (evalF x F) _ false = true from h) with ⟨k1, n, h1, h2⟩ | ⟨_, h2⟩
    · rw [evalF_eq] at h1
      have fin : k (.int kk (kk.wrap n)) H = true → ∃ v H', opA O F H (.cvi kk x) = some (v, H') ∧ k v H' = true := fun h => ⟨_, H, by simp only [opA, COp.isPure, if_true, pureOp, h1, Option.map_some], h⟩
      rcases bc_true h2 with ⟨h3, h4⟩ | ⟨_, h4⟩
      · cases n with
        | negSucc m => exact fin h4
        | ofNat m =>
          rcases bc_true (show bc (Nat.ble m 1000000000) (k (.int kk (Int.ofNat m)) H) (k (.int kk (kk.wrap (Int.ofNat m))) H) = true from h4) with ⟨h5, h6⟩ | ⟨_, h6⟩
          · have hk : kk = .i64 := kindCode_inj (b := .i64) h3
            subst hk
            have := wrap_small (n := m) (Nat.le_of_ble_eq_true h5)
            apply fin
            rw [show IntKind.wrap .i64 (Int.ofNat m) = Int.ofNat m from this]; exact h6
          · exact fin h6
      · exact fin h4
    · cases h2
  case sl size x lo hi mx =>
    obtain ⟨v, h1, h2⟩ := optB_true (show optB (sliceV size (evalF x F) (lo.map fun o => evalF o F) (hi.map fun o => evalF o F) (mx.map fun o => evalF o F)) (fun v => k v H) = true from h)
    simp only [evalF_eq] at h1
    refine ⟨v, H, ?_, h2⟩
    simp only [opA, COp.isPure, if_true, pureOp]
    rw [show sliceV size (F.eval x) (lo.map F.eval) (hi.map F.eval) (mx.map F.eval) = some v from h1]; rfl
  case fad x off =>
    obtain ⟨a, h1, h2⟩ := vPtr_true (show vPtr (evalF x F) _ = true from h)
    rw [evalF_eq] at h1
    obtain ⟨b, o, s⟩ := a
    exact ⟨_, H, by simp only [opA, COp.isPure, if_true, pureOp, h1, Option.map_some]; rfl, h2⟩
  case fld1 x off =>
    obtain ⟨cs, h1, h2⟩ := vAgg_true (show vAgg (evalF x F) _ = true from h)
    obtain ⟨v, h3, h4⟩ := optB_true h2
    rw [evalF_eq] at h1
    rw [nth_eq] at h3
    obtain ⟨cs⟩ := cs
    exact ⟨v, H, by simp only [opA, COp.isPure, if_true, pureOp, h1]; rw [show cs[off]? = some v from h3]; rfl, h4⟩
  case iad size x i =>
    obtain ⟨a, len, cap, h1, h2⟩ := vSlice_true (show vSlice (evalF x F) _ = true from h)
    obtain ⟨a, rfl, h3⟩ := optB_true h2
    rcases vIntD_true h3 with ⟨k1, n, h4, h5⟩ | ⟨_, h5⟩
    · cases n with
      | negSucc m => cases h5
      | ofNat m =>
        obtain ⟨b, o, s⟩ := a
        rcases bc_true (show bc (Nat.ble (Nat.succ m) len) (k (.pointer (some ⟨b, Nat.add o (Nat.mul m size), none⟩)) H) false = true from h5) with ⟨h6, h7⟩ | ⟨_, h7⟩
        · rw [evalF_eq] at h1 h4
          have : m < len := Nat.le_of_ble_eq_true h6
          refine ⟨_, H, ?_, h7⟩
          simp only [opA, COp.isPure, if_true, pureOp, h1, h4]
          rw [if_pos (show (0 : Int) ≤ Int.ofNat m ∧ Int.ofNat m < (len : Int) from ⟨Int.natCast_nonneg m, by simpa using this⟩)]; rfl
        · cases h7
    · cases h5
  case ids x i =>
    obtain ⟨s, h1, h2⟩ := vStr_true (show vStr (evalF x F) _ = true from h)
    rcases vIntD_true h2 with ⟨k1, n, h4, h5⟩ | ⟨_, h5⟩
    · cases n with
      | negSucc m => cases h5
      | ofNat m =>
        obtain ⟨b, h6, h7⟩ := optB_true h5
        rw [evalF_eq] at h1 h4
        refine ⟨_, H, ?_, h7⟩
        simp only [opA, COp.isPure, if_true, pureOp, h1, h4]
        rw [if_pos (show (0 : Int) ≤ Int.ofNat m from Int.natCast_nonneg m)]
        rw [show s[(Int.ofNat m).toNat]? = some b from h6]; rfl
    · cases h5
  case ext x i =>
    obtain ⟨cs, h1, h2⟩ := vTuple_true (show vTuple (evalF x F) _ = true from h)
    obtain ⟨v, h3, h4⟩ := optB_true h2
    rw [evalF_eq] at h1
    rw [nth_eq] at h3
    obtain ⟨cs⟩ := cs
    exact ⟨v, H, by simp only [opA, COp.isPure, if_true, pureOp, h1]; rw [show (Array.mk cs)[i]? = some v from by simpa using h3]; rfl, h4⟩
  case lns x =>
    obtain ⟨s, h1, h2⟩ := vStr_true (show vStr (evalF x F) _ = true from h)
    rw [evalF_eq] at h1
    exact ⟨_, H, by simp only [opA, COp.isPure, if_true, pureOp, h1, Option.map_some]; rfl, h2⟩
  case lnl x =>
    obtain ⟨a, l, c, h1, h2⟩ := vSlice_true (show vSlice (evalF x F) _ = true from h)
    rw [evalF_eq] at h1
    exact ⟨_, H, by simp only [opA, COp.isPure, if_true, pureOp, h1, Option.map_some]; rfl, h2⟩
  case call f args =>
    obtain ⟨fn, a, c, h1, h2⟩ := vFunc_true (show vFunc (evalF f F) _ = true from h)
    rw [evalF_eq] at h1
    cases fn with
    | func g =>
      obtain ⟨v, H', h3, h4⟩ := hX.cf _ _ _ _ h2
      refine ⟨v, H', ?_, h4⟩
      simp only [opA, callV, h1]
      rw [← h3, evalsF_eq]
      congr 1
      obtain ⟨a⟩ := a
      obtain ⟨c⟩ := c
      simp
    | yield l =>
      obtain ⟨v, H', h3, h4⟩ := hX.rd _ _ _ _ h2
      refine ⟨v, H', ?_, h4⟩
      simp only [opA, callV, h1]
      rw [← h3, evalsF_eq]
      congr 1
      obtain ⟨a⟩ := a
      simp
    | method _ => cases h2
    | methodOf _ _ => cases h2
    | via _ _ _ _ => cases h2
end Go.Proofs.YtjmohjemgohlpaaGreatDoor.Am

/- The fast interpreter: statements, calls; what it finds true, the interpreter finds. -/
namespace Go.Proofs.YtjmohjemgohlpaaGreatDoor.Am
open Go

noncomputable def vBoolD : Value → Bool → Bool → Bool → Bool := fun v => @Value.rec (fun _ => Bool → Bool → Bool → Bool) (fun _ => PUnit) (fun _ => PUnit) (fun b t f _ => bc b t f) (fun _ _ _ _ d => d) (fun _ _ _ _ d => d) (fun _ _ _ _ _ d => d) (fun _ _ _ d => d) (fun _ _ _ d => d) (fun _ _ _ _ _ d => d) (fun _ _ _ d => d) (fun _ _ _ d => d) (fun _ _ _ _ _ _ _ d => d) (fun _ _ d => d) (fun _ _ _ _ _ d => d) (fun _ _ d => d) (fun _ _ _ _ d => d) (fun _ _ _ _ d => d) (fun _ _ => PUnit.unit) PUnit.unit (fun _ _ _ _ => PUnit.unit) v
noncomputable def wantK (F : Fr) (g : Option (Nat × Bool)) (t f : Bool) : Bool :=
  @Option.rec (Nat × Bool) (fun _ => Bool) t (fun p => @Prod.rec Nat Bool (fun _ => Bool) (fun d b => vBoolD (getV F d) (bc b t f) (bc b f t) f) p) g
theorem wantK_true {F : Fr} {g : Option (Nat × Bool)} {t f : Bool} (h : wantK F g t f = true) : (wanted F g = true ∧ t = true) ∨ (wanted F g = false ∧ f = true) := by
  cases g with
  | none => exact .inl ⟨rfl, h⟩
  | some p =>
    obtain ⟨d, b⟩ := p
    have h' : vBoolD (getV F d) (bc b t f) (bc b f t) f = true := h
    rw [getV_eq] at h'
    simp only [wanted]
    generalize F.get d = v at h' ⊢
    cases v with
    | bool c => cases b <;> cases c <;> first | exact .inl ⟨rfl, h'⟩ | exact .inr ⟨rfl, h'⟩
    | _ => exact .inr ⟨rfl, h'⟩
noncomputable def putK (dst : Option Nat) (v : Value) (F : Fr) (k : Fr → Bool) : Bool :=
  @Option.rec Nat (fun _ => Bool) (k F) (fun d => @Fr.rec (fun _ => Bool) (fun tr n m r => bc (Nat.ble (Nat.succ d) n) (k ⟨fset tr v d, n, m, r⟩) false) F) dst
theorem putK_true {dst : Option Nat} {v : Value} {F : Fr} {k : Fr → Bool} (h : putK dst v F k = true) : ∃ F1, F.put dst v = some F1 ∧ k F1 = true := by
  cases dst with
  | none => exact ⟨F, rfl, h⟩
  | some d =>
    obtain ⟨tr, n, m, r⟩ := F
    rcases bc_true (show bc (Nat.ble (Nat.succ d) n) (k ⟨fset tr v d, n, m, r⟩) false = true from h) with ⟨h1, h2⟩ | ⟨_, h2⟩
    · rw [fset_eq] at h2
      refine ⟨_, ?_, h2⟩
      show cond (Nat.blt d n) _ none = _
      rw [show Nat.blt d n = true from h1]; rfl
    · cases h2

noncomputable def fopsC (o : CO) (_ : List CO) (ih : FO → Fr → Hp → (Fr → Hp → Bool) → Bool) (X : FO) (F : Fr) (H : Hp) (k : Fr → Hp → Bool) : Bool :=
  @CO.rec (fun _ => Bool) (fun dst g op => wantK F g (fopA op X F H fun v H1 => putK dst v F fun F1 => ih X F1 H1 k) (putK dst undef F fun F1 => ih X F1 H k)) o
noncomputable def fops (l : List CO) : FO → Fr → Hp → (Fr → Hp → Bool) → Bool := @List.rec CO (fun _ => FO → Fr → Hp → (Fr → Hp → Bool) → Bool) (fun _ F H k => k F H) fopsC l
theorem fops_sound {O : Oracle} {X : FO} (hX : FOK O X) : ∀ {l : List CO} {F : Fr} {H : Hp} {k : Fr → Hp → Bool}, fops l X F H k = true → ∃ F' H', opsA O l F H = some (F', H') ∧ k F' H' = true := by
  intro l
  induction l with
  | nil => intro F H k h; exact ⟨F, H, rfl, h⟩
  | cons o l ih =>
    intro F H k h
    obtain ⟨dst, g, op⟩ := o
    rcases wantK_true (show wantK F g (fopA op X F H fun v H1 => putK dst v F fun F1 => fops l X F1 H1 k) (putK dst undef F fun F1 => fops l X F1 H k) = true from h) with ⟨h1, h2⟩ | ⟨h1, h2⟩
    · obtain ⟨v, H1, h3, h4⟩ := fopA_sound hX h2
      obtain ⟨F1, h5, h6⟩ := putK_true h4
      obtain ⟨F2, H2, h7, h8⟩ := ih h6
      exact ⟨F2, H2, by simp only [opsA, h1, h3, h5, h7], h8⟩
    · obtain ⟨F1, h5, h6⟩ := putK_true h2
      obtain ⟨F2, H2, h7, h8⟩ := ih h6
      exact ⟨F2, H2, by simp only [opsA, h1, h5, h7], h8⟩

noncomputable def fdrawC (o : CO) (_ : List CO) (ih : FO → Fr → Hp → (List Did → Fr → Hp → Bool) → Bool) (X : FO) (F : Fr) (H : Hp) (k : List Did → Fr → Hp → Bool) : Bool :=
  @CO.rec (fun _ => Bool) (fun dst g op => wantK F g
    (fopA op X F { tr := H.tr, size := H.size, low := H.size } fun v H1 => putK dst v F fun F1 => ih X F1 { tr := H1.tr, size := H1.size, low := Nat.min H.low H1.low } fun d => k (didOf F H.size H1.low op :: d))
    (putK dst undef F fun F1 => ih X F1 H fun d => k (.quiet :: d))) o
noncomputable def fdraw (l : List CO) : FO → Fr → Hp → (List Did → Fr → Hp → Bool) → Bool := @List.rec CO (fun _ => FO → Fr → Hp → (List Did → Fr → Hp → Bool) → Bool) (fun _ F H k => k [] F H) fdrawC l
theorem fdraw_sound {O : Oracle} {X : FO} (hX : FOK O X) : ∀ {l : List CO} {F : Fr} {H : Hp} {k : List Did → Fr → Hp → Bool}, fdraw l X F H k = true → ∃ d F' H', drawA O l F H = some (d, F', H') ∧ k d F' H' = true := by
  intro l
  induction l with
  | nil => intro F H k h; exact ⟨[], F, H, rfl, h⟩
  | cons o l ih =>
    intro F H k h
    obtain ⟨dst, g, op⟩ := o
    rcases wantK_true (show wantK F g (fopA op X F { tr := H.tr, size := H.size, low := H.size } fun v H1 => putK dst v F fun F1 => fdraw l X F1 { tr := H1.tr, size := H1.size, low := Nat.min H.low H1.low } fun d => k (didOf F H.size H1.low op :: d)) (putK dst undef F fun F1 => fdraw l X F1 H fun d => k (.quiet :: d)) = true from h) with ⟨h1, h2⟩ | ⟨h1, h2⟩
    · obtain ⟨v, H1, h3, h4⟩ := fopA_sound hX h2
      obtain ⟨F1, h5, h6⟩ := putK_true h4
      obtain ⟨d, F2, H2, h7, h8⟩ := ih h6
      exact ⟨_, F2, H2, by simp only [drawA, h1, h3, h5, h7], h8⟩
    · obtain ⟨F1, h5, h6⟩ := putK_true h2
      obtain ⟨d, F2, H2, h7, h8⟩ := ih h6
      exact ⟨_, F2, H2, by simp only [drawA, h1, h5, h7], h8⟩

/-! ### Statements -/
abbrev KE := Ex → Fr → Hp → Bool
abbrev SD := FO → Nat → Fr → Hp → KE → Bool
noncomputable def exB (e : Ex) (n : Bool) (x g : Nat → Bool) (r : Bool) : Bool := @Ex.rec (fun _ => Bool) n x g r e
noncomputable def exS (e : Ex) (_ : FO) (_ : Nat) (F : Fr) (H : Hp) (k : KE) : Bool := k e F H
noncomputable def opsS (l : List CO) (X : FO) (_ : Nat) (F : Fr) (H : Hp) (k : KE) : Bool := fops l X F H (k .normal)
noncomputable def drawS (l : List CO) (un : List (Nat × Nat)) (X : FO) (_ : Nat) (F : Fr) (H : Hp) (k : KE) : Bool := fdraw l X F H fun d F1 H1 => bc (apart un d) (k .normal F1 H1) false
noncomputable def kSeqF (b : Fr → Hp → KE → Bool) (k : KE) (e : Ex) (F : Fr) (H : Hp) : Bool := exB e (b F H k) (fun i => k (.exit i) F H) (fun i => k (.goto i) F H) (k .ret F H)
noncomputable def seqS (_ _ : CC) (da db : SD) (X : FO) (n : Nat) (F : Fr) (H : Hp) (k : KE) : Bool := da X n F H (kSeqF (db X n) k)
noncomputable def condS (c : Operand) (_ _ : CC) (da db : SD) (X : FO) (n : Nat) (F : Fr) (H : Hp) (k : KE) : Bool := vBool (evalF c F) (da X n F H k) (db X n F H k)
noncomputable def kBlockF (id : Nat) (k : KE) (e : Ex) (F : Fr) (H : Hp) : Bool := exB e (k .normal F H) (fun i => bc (Nat.beq i id) (k .normal F H) (k (.exit i) F H)) (fun i => k (.goto i) F H) (k .ret F H)
noncomputable def blockS (id : Nat) (_ : CC) (d : SD) (X : FO) (n : Nat) (F : Fr) (H : Hp) (k : KE) : Bool := d X n F H (kBlockF id k)
noncomputable def fiterS (d : Fr → Hp → KE → Bool) (_ : Nat) (ih : Fr → Hp → KE → Bool) (F : Fr) (H : Hp) (k : KE) : Bool := d F H (kSeqF ih k)
noncomputable def fiter (d : Fr → Hp → KE → Bool) (n : Nat) : Fr → Hp → KE → Bool := @Nat.rec (fun _ => Fr → Hp → KE → Bool) (fun _ _ _ => false) (fiterS d) n
noncomputable def loopS (_ : CC) (d : SD) (X : FO) (n : Nat) (F : Fr) (H : Hp) (k : KE) : Bool := fiter (d X n) n F H k
noncomputable def kScopeF (body : CC) (ih : CC → Fr → Hp → KE → Bool) (k : KE) (e : Ex) (F : Fr) (H : Hp) : Bool :=
  exB e (k .normal F H) (fun i => k (.exit i) F H) (fun l => @Option.rec CC (fun _ => Bool) (k (.goto l) F H) (fun rest => ih rest F H k) (findL body l)) (k .ret F H)
noncomputable def fscopeS (f : CC → Fr → Hp → KE → Bool) (body : CC) (_ : Nat) (ih : CC → Fr → Hp → KE → Bool) (c : CC) (F : Fr) (H : Hp) (k : KE) : Bool := f c F H (kScopeF body ih k)
noncomputable def fscope (f : CC → Fr → Hp → KE → Bool) (body : CC) (n : Nat) : CC → Fr → Hp → KE → Bool := @Nat.rec (fun _ => CC → Fr → Hp → KE → Bool) (fun _ _ _ _ => false) (fscopeS f body) n
noncomputable def scopeS (c : CC) (d : SD) (X : FO) (n : Nat) (F : Fr) (H : Hp) (k : KE) : Bool := d X n F H (kScopeF c (fscope X.ex c n) k)
def ownX (own : FuncId → Bool) : Value → Bool
  | .func (.func g) _ _ => own g
  | _ => false
def rangeEnd (F : Fr) (H H3 : Hp) : Option (Ex × Fr × Hp) :=
  match H3.get (H.size + 1) with
  | .loop st pend F0 ps as bd =>
    if st = .busy then none else
    some (pend.getD .normal, { tr := F.tr, n := F.n, marks := H.size :: F.marks, round := F.round }, H3.upd (H.size + 1) (.loop .exhausted pend F0 ps as bd))
  | _ => none
noncomputable def rangeS (f : Operand) (ps : List Nat) (as bd : CC) (_ _ : SD) (X : FO) (_ : Nat) (F : Fr) (H : Hp) (k : KE) : Bool :=
  bc (F.round || !ownX X.own (evalF f F)) false
    (callVF X ((H.new .deferred).new (.loop .ready none F ps as bd)) (evalF f F) [.func (.yield (H.size + 1)) #[] #[]] fun _ H3 => optB (rangeEnd F H H3) fun r => k r.1 r.2.1 r.2.2)
noncomputable def badS (_ : FO) (_ : Nat) (_ : Fr) (_ : Hp) (_ : KE) : Bool := false
noncomputable def fexec (c : CC) : SD :=
  @CC.rec (fun _ => SD) (exS .normal) opsS drawS seqS condS blockS loopS (fun i => exS (.exit i)) (fun l => exS (.goto l)) (fun _ => exS .normal) (exS .ret) scopeS rangeS badS c

section
variable {O : Oracle} {X : FO}
theorem callVF_sound (hX : FOK O X) {H : Hp} {f : Value} {args : List Value} {k : FK} (h : callVF X H f args k = true) : ∃ v H', callV O H f args = some (v, H') ∧ k v H' = true := by
  obtain ⟨fn, a, c, rfl, h2⟩ := vFunc_true h
  cases fn with
  | func g =>
    obtain ⟨v, H', h3, h4⟩ := hX.cf _ _ _ _ h2
    refine ⟨v, H', ?_, h4⟩
    simp only [callV]
    rw [← h3]
    congr 1
    obtain ⟨a⟩ := a
    obtain ⟨c⟩ := c
    simp
  | yield l =>
    obtain ⟨v, H', h3, h4⟩ := hX.rd _ _ _ _ h2
    refine ⟨v, H', ?_, h4⟩
    simp only [callV]
    rw [← h3]
    congr 1
    obtain ⟨a⟩ := a
    simp
  | method _ => cases h2
  | methodOf _ _ => cases h2
  | via _ _ _ _ => cases h2

theorem fiter_sound {c : CC} {n : Nat} {d : Fr → Hp → KE → Bool} (hd : ∀ {F : Fr} {H : Hp} {k : KE}, d F H k = true → ∃ e F' H', exec O n c F H = some (e, F', H') ∧ k e F' H' = true) :
    ∀ m {F : Fr} {H : Hp} {k : KE}, fiter d m F H k = true → ∃ e F' H', iterA (exec O n c) m F H = some (e, F', H') ∧ k e F' H' = true := by
  intro m
  induction m with
  | zero => intro F H k h; cases h
  | succ m ih =>
    intro F H k h
    obtain ⟨e, F1, H1, h1, h2⟩ := hd (show d F H (kSeqF (fiter d m) k) = true from h)
    cases e with
    | normal =>
      obtain ⟨e, F2, H2, h3, h4⟩ := ih (show fiter d m F1 H1 k = true from h2)
      exact ⟨e, F2, H2, by simp only [iterA, h1]; exact h3, h4⟩
    | exit i => exact ⟨_, F1, H1, by simp only [iterA, h1], h2⟩
    | goto i => exact ⟨_, F1, H1, by simp only [iterA, h1], h2⟩
    | ret => exact ⟨_, F1, H1, by simp only [iterA, h1], h2⟩

theorem fscope_sound (hX : FOK O X) {body : CC} : ∀ m {c : CC} {F : Fr} {H : Hp} {k : KE}, fscope X.ex body m c F H k = true → ∃ e F' H', scopeA O.ex body m c F H = some (e, F', H') ∧ k e F' H' = true := by
  intro m
  induction m with
  | zero => intro c F H k h; cases h
  | succ m ih =>
    intro c F H k h
    obtain ⟨e, F1, H1, h1, h2⟩ := hX.ex _ _ _ _ (show X.ex c F H (kScopeF body (fscope X.ex body m) k) = true from h)
    cases e with
    | normal => exact ⟨_, F1, H1, by simp only [scopeA, h1], h2⟩
    | exit i => exact ⟨_, F1, H1, by simp only [scopeA, h1], h2⟩
    | ret => exact ⟨_, F1, H1, by simp only [scopeA, h1], h2⟩
    | goto l =>
      have h2' : @Option.rec CC (fun _ => Bool) (k (.goto l) F1 H1) (fun rest => fscope X.ex body m rest F1 H1 k) (findL body l) = true := h2
      cases hf : findL body l with
      | none => rw [hf] at h2'; exact ⟨_, F1, H1, by simp only [scopeA, h1, hf], h2'⟩
      | some rest =>
        rw [hf] at h2'
        obtain ⟨e, F2, H2, h3, h4⟩ := ih (show fscope X.ex body m rest F1 H1 k = true from h2')
        exact ⟨e, F2, H2, by simp only [scopeA, h1, hf]; exact h3, h4⟩

theorem ownX_eq (own : FuncId → Bool) (O : Oracle) (h : own = O.own) (v : Value) : ownX own v = ownV O v := by
  subst h
  cases v with
  | func f a c => cases f <;> rfl
  | _ => rfl

theorem fexec_sound (hX : FOK O X) {n : Nat} : ∀ {c : CC} {F : Fr} {H : Hp} {k : KE}, fexec c X n F H k = true → ∃ e F' H', exec O n c F H = some (e, F', H') ∧ k e F' H' = true := by
  intro c
  induction c with
  | skip => intro F H k h; exact ⟨_, F, H, rfl, h⟩
  | exit i => intro F H k h; exact ⟨_, F, H, rfl, h⟩
  | goto i => intro F H k h; exact ⟨_, F, H, rfl, h⟩
  | label i => intro F H k h; exact ⟨_, F, H, rfl, h⟩
  | ret => intro F H k h; exact ⟨_, F, H, rfl, h⟩
  | bad => intro F H k h; cases h
  | ops l =>
    intro F H k h
    obtain ⟨F1, H1, h1, h2⟩ := fops_sound hX (show fops l X F H (k .normal) = true from h)
    exact ⟨_, F1, H1, by simp only [exec, h1], h2⟩
  | draw l un =>
    intro F H k h
    obtain ⟨d, F1, H1, h1, h2⟩ := fdraw_sound hX (show fdraw l X F H (fun d F1 H1 => bc (apart un d) (k .normal F1 H1) false) = true from h)
    rcases bc_true h2 with ⟨h3, h4⟩ | ⟨_, h4⟩
    · exact ⟨_, F1, H1, by simp only [exec, h1, h3, if_true], h4⟩
    · cases h4
  | seq a b iha ihb =>
    intro F H k h
    obtain ⟨e, F1, H1, h1, h2⟩ := iha (show fexec a X n F H (kSeqF (fexec b X n) k) = true from h)
    cases e with
    | normal =>
      obtain ⟨e, F2, H2, h3, h4⟩ := ihb (show fexec b X n F1 H1 k = true from h2)
      exact ⟨e, F2, H2, by simp only [exec, h1]; exact h3, h4⟩
    | exit i => exact ⟨_, F1, H1, by simp only [exec, h1], h2⟩
    | goto i => exact ⟨_, F1, H1, by simp only [exec, h1], h2⟩
    | ret => exact ⟨_, F1, H1, by simp only [exec, h1], h2⟩
  | cond c a b iha ihb =>
    intro F H k h
    rcases vBool_true (show vBool (evalF c F) (fexec a X n F H k) (fexec b X n F H k) = true from h) with ⟨h1, h2⟩ | ⟨h1, h2⟩
    · rw [evalF_eq] at h1
      obtain ⟨e, F1, H1, h3, h4⟩ := iha h2
      exact ⟨e, F1, H1, by simp only [exec, h1]; exact h3, h4⟩
    · rw [evalF_eq] at h1
      obtain ⟨e, F1, H1, h3, h4⟩ := ihb h2
      exact ⟨e, F1, H1, by simp only [exec, h1]; exact h3, h4⟩
  | block id c ih =>
    intro F H k h
    obtain ⟨e, F1, H1, h1, h2⟩ := ih (show fexec c X n F H (kBlockF id k) = true from h)
    cases e with
    | normal => exact ⟨_, F1, H1, by simp only [exec, h1], h2⟩
    | goto i => exact ⟨_, F1, H1, by simp only [exec, h1], h2⟩
    | ret => exact ⟨_, F1, H1, by simp only [exec, h1], h2⟩
    | exit i =>
      rcases bc_true (show bc (Nat.beq i id) (k .normal F1 H1) (k (.exit i) F1 H1) = true from h2) with ⟨h3, h4⟩ | ⟨h3, h4⟩
      · exact ⟨_, F1, H1, by simp only [exec, h1, h3]; rfl, h4⟩
      · exact ⟨_, F1, H1, by simp only [exec, h1, h3]; rfl, h4⟩
  | loop c ih =>
    intro F H k h
    obtain ⟨e, F1, H1, h1, h2⟩ := fiter_sound (O := O) (c := c) (n := n) ih n (show fiter (fexec c X n) n F H k = true from h)
    exact ⟨e, F1, H1, by simp only [exec]; exact h1, h2⟩
  | scope c ih =>
    intro F H k h
    obtain ⟨e, F1, H1, h1, h2⟩ := ih (show fexec c X n F H (kScopeF c (fscope X.ex c n) k) = true from h)
    cases e with
    | normal => exact ⟨_, F1, H1, by simp only [exec, h1], h2⟩
    | exit i => exact ⟨_, F1, H1, by simp only [exec, h1], h2⟩
    | ret => exact ⟨_, F1, H1, by simp only [exec, h1], h2⟩
    | goto l =>
      have h2' : @Option.rec CC (fun _ => Bool) (k (.goto l) F1 H1) (fun rest => fscope X.ex c n rest F1 H1 k) (findL c l) = true := h2
      cases hf : findL c l with
      | none => rw [hf] at h2'; exact ⟨_, F1, H1, by simp only [exec, h1, hf], h2'⟩
      | some rest =>
        rw [hf] at h2'
        obtain ⟨e, F2, H2, h3, h4⟩ := fscope_sound hX n (show fscope X.ex c n rest F1 H1 k = true from h2')
        exact ⟨e, F2, H2, by simp only [exec, h1, hf]; exact h3, h4⟩
  | rangeF f ps as bd iha ihb =>
    intro F H k h
    rcases bc_true (show bc (F.round || !ownX X.own (evalF f F)) false
      (callVF X ((H.new .deferred).new (.loop .ready none F ps as bd)) (evalF f F) [.func (.yield (H.size + 1)) #[] #[]] fun _ H3 => optB (rangeEnd F H H3) fun r => k r.1 r.2.1 r.2.2) = true from h) with ⟨_, h2⟩ | ⟨h1, h2⟩
    · cases h2
    · obtain ⟨v, H3, h3, h4⟩ := callVF_sound hX h2
      obtain ⟨⟨e, F4, H4⟩, h5, h6⟩ := optB_true h4
      rw [evalF_eq] at h1 h3
      rw [ownX_eq _ O hX.own] at h1
      refine ⟨e, F4, H4, ?_, h6⟩
      simp only [exec, rangeA, h1, h3]
      exact h5
end

/-! ### Calls -/
noncomputable def fsetArgsC (v : Value) (_ : List Value) (ih : Tr Value → Nat → Tr Value) (t : Tr Value) (i : Nat) : Tr Value := ih (fset t v i) (Nat.succ i)
noncomputable def fsetArgs (l : List Value) : Tr Value → Nat → Tr Value := @List.rec Value (fun _ => Tr Value → Nat → Tr Value) (fun t _ => t) fsetArgsC l
theorem fsetArgs_eq (l : List Value) : ∀ t i, fsetArgs l t i = setArgs t i l := by
  induction l with
  | nil => intro t i; rfl
  | cons v l ih =>
    intro t i
    show fsetArgs l (fset t v i) (Nat.succ i) = _
    rw [ih, fset_eq]; rfl
noncomputable def kCallF (rs : List CR) (k : FK) (e : Ex) (F : Fr) (H : Hp) : Bool := exB e (optK (leaveA rs F H) k) (fun _ => false) (fun _ => false) (optK (leaveA rs F H) k)
noncomputable def fbody (X : FO) (n : Nat) (cf : CF) (l : List Value) (H : Hp) (k : FK) : Bool :=
  @CF.rec (fun _ => Bool) (fun m rs body => bc (Nat.ble l.length m) (fexec body X n ⟨fsetArgs l .leaf 0, m, [], false⟩ H (kCallF rs k)) false) cf
theorem fbody_sound {O : Oracle} {X : FO} (hX : FOK O X) {n : Nat} {cf : CF} {l : List Value} {H : Hp} {k : FK} (h : fbody X n cf l H k = true) : ∃ v H', callBody O n cf l.toArray H = some (v, H') ∧ k v H' = true := by
  obtain ⟨m, rs, body⟩ := cf
  rcases bc_true (show bc (Nat.ble l.length m) (fexec body X n ⟨fsetArgs l .leaf 0, m, [], false⟩ H (kCallF rs k)) false = true from h) with ⟨h1, h2⟩ | ⟨_, h2⟩
  · obtain ⟨e, F1, H1, h3, h4⟩ := fexec_sound hX h2
    have h5 : l.length ≤ m := Nat.le_of_ble_eq_true h1
    have h6 : exec O n body (Fr.ofArgs l.toArray m) H = some (e, F1, H1) := by
      rw [← h3, fsetArgs_eq]; rfl
    have fin : optK (leaveA rs F1 H1) k = true → e = .normal ∨ e = .ret → ∃ v H', callBody O n ⟨m, rs, body⟩ l.toArray H = some (v, H') ∧ k v H' = true := by
      intro h7 h8
      obtain ⟨v, H2, h9, h10⟩ := optK_true h7
      refine ⟨v, H2, ?_, h10⟩
      simp only [callBody]
      rw [if_neg (by simpa using h5), h6]
      rcases h8 with rfl | rfl <;> exact h9
    cases e with
    | normal => exact fin h4 (.inl rfl)
    | ret => exact fin h4 (.inr rfl)
    | exit i => cases h4
    | goto i => cases h4
  · cases h2

noncomputable def loopB : Blk → (LoopState → Option Ex → Fr → List Nat → CC → CC → Bool) → Bool := fun x =>
  @Blk.rec (fun _ => (LoopState → Option Ex → Fr → List Nat → CC → CC → Bool) → Bool) (fun _ => false) (fun _ _ _ => false) (fun _ _ _ => false) (fun _ _ _ => false) (fun _ _ _ => false) (fun st p F ps a b k => k st p F ps a b) (fun _ => false) x
theorem loopB_true {x : Blk} {k : LoopState → Option Ex → Fr → List Nat → CC → CC → Bool} (h : loopB x k = true) : ∃ st p F ps a b, x = .loop st p F ps a b ∧ k st p F ps a b = true := by
  cases x with
  | loop st p F ps a b => exact ⟨st, p, F, ps, a, b, rfl, h⟩
  | _ => cases h
noncomputable def fround (X : FO) (n : Nat) (l : Nat) (args : List Value) (H : Hp) (k : FK) : Bool :=
  loopB (getB H l) fun st _ F0 ps as bd => bc (decide (st = .ready)) (optB (setParams { tr := F0.tr, n := F0.n, marks := [], round := true } ps args) fun F =>
    fexec as X n F H fun e F1 H1 => exB e (loopB (getB H1 l) fun st pend F0 ps as bd' => bc (decide (st = .ready))
      (fexec bd X n F1 (H1.upd l (.loop .busy pend F0 ps as bd')) fun e _ H2 => loopB (getB H2 l) fun _ _ F0 ps as bd => k (.bool (endOf e).2.2) (H2.upd l (.loop (endOf e).1 (endOf e).2.1 F0 ps as bd))) false)
      (fun _ => false) (fun _ => false) false) false
theorem fround_sound {O : Oracle} {X : FO} (hX : FOK O X) {n l : Nat} {args : List Value} {H : Hp} {k : FK} (h : fround X n l args H k = true) : ∃ v H', roundBody O n l args.toArray H = some (v, H') ∧ k v H' = true := by
  obtain ⟨st, p, F0, ps, as, bd, h1, h2⟩ := loopB_true h
  rcases bc_true h2 with ⟨h3, h4⟩ | ⟨_, h4⟩
  · obtain ⟨F, h5, h6⟩ := optB_true h4
    obtain ⟨e, F1, H1, h7, h8⟩ := fexec_sound hX h6
    cases e with
    | normal =>
      obtain ⟨st', pend, F0', ps', as', bd', h9, h10⟩ := loopB_true h8
      rcases bc_true h10 with ⟨h11, h12⟩ | ⟨_, h12⟩
      · obtain ⟨e, F2, H2, h13, h14⟩ := fexec_sound hX h12
        obtain ⟨st2, pend2, F02, ps2, as2, bd2, h15, h16⟩ := loopB_true h14
        rw [getB_eq] at h1 h9 h15
        have e1 := of_decide_eq_true h3
        have e2 := of_decide_eq_true h11
        subst e1; subst e2
        refine ⟨_, _, ?_, h16⟩
        simp only [roundBody, h1, h5, h7, h9, h13, h15]
      · cases h12
    | exit i => cases h8
    | goto i => cases h8
    | ret => cases h8
  · cases h4

noncomputable def foracleS (E : Env) (n : Nat) (X : FO) : FO :=
  ⟨fun f l H k => @Option.rec CF (fun _ => Bool) (optK (E.prim f l.toArray H) k) (fun cf => fbody X n cf l H k) (E.code f), fround X n, fun c F H k => fexec c X n F H k, fun f => (E.code f).isSome⟩
noncomputable def foracle (E : Env) (n : Nat) : FO := @Nat.rec (fun _ => FO) ⟨fun _ _ _ _ => false, fun _ _ _ _ => false, fun _ _ _ _ => false, fun _ => false⟩ (foracleS E) n
theorem foracle_sound (E : Env) : ∀ n, FOK (oracle E n) (foracle E n) := by
  intro n
  induction n with
  | zero => exact ⟨fun _ _ _ _ h => (by cases h), fun _ _ _ _ h => (by cases h), fun _ _ _ _ h => (by cases h), rfl⟩
  | succ n ih =>
    refine ⟨fun f l H k h => ?_, fun l a H k h => fround_sound ih h, fun c F H k h => fexec_sound ih h, rfl⟩
    have h' : @Option.rec CF (fun _ => Bool) (optK (E.prim f l.toArray H) k) (fun cf => fbody (foracle E n) n cf l H k) (E.code f) = true := h
    simp only [oracle]
    cases hc : E.code f with
    | none => rw [hc] at h'; exact optK_true h'
    | some cf => rw [hc] at h'; exact fbody_sound ih h'

noncomputable def isTrueV (v : Value) : Bool := vBool v true false
/-- does the call come to true? -/
noncomputable def fcall (E : Env) (n : Nat) (f : FuncId) (args : List Value) (H : Hp) : Bool := (foracle E n).cf f args H fun v _ => isTrueV v
theorem fcall_true {E : Env} {n : Nat} {f : FuncId} {args : List Value} {H : Hp} (h : fcall E n f args H = true) : ∃ H', call E n f args.toArray H = some (.bool true, H') := by
  obtain ⟨v, H', h1, h2⟩ := (foracle_sound E n).cf _ _ _ _ h
  rcases vBool_true (show vBool v true false = true from h2) with ⟨rfl, _⟩ | ⟨_, h3⟩
  · exact ⟨H', h1⟩
  · cases h3

/-! ### A table of code -/
noncomputable def tabOf : List (Nat × CF) → Tr CF
  | [] => .leaf
  | (f, c) :: l => fset (tabOf l) c f
theorem tabOf_mem : ∀ {l : List (Nat × CF)} {f : Nat} {c : CF}, (tabOf l).get f = some c → (f, c) ∈ l := by
  intro l
  induction l with
  | nil => intro f c h; cases h
  | cons x l ih =>
    intro f c h
    obtain ⟨g, d⟩ := x
    simp only [tabOf, fset_eq, Tr.get_set] at h
    split at h
    · cases h; rename_i e; subst e; exact List.mem_cons_self
    · exact List.mem_cons_of_mem _ (ih h)
theorem code_of_tab {P : Program} {l : List (Nat × CF)} (hl : ∀ x ∈ l, ∃ fn, P.funcs[x.1]? = some fn ∧ compF P fn = some x.2) : ∀ f cf, fget (tabOf l) f = some cf → ∃ fn, P.funcs[f]? = some fn ∧ compF P fn = some cf := by
  intro f cf h
  rw [fget_eq] at h
  exact hl _ (tabOf_mem h)
end Go.Proofs.YtjmohjemgohlpaaGreatDoor.Am
