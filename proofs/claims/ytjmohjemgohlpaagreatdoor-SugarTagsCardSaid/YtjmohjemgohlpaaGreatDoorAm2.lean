/- The interpreter's operations, one for one, give what the model's give. By an AI agent. No person has read it. -/
import Derived.Test.YtjmohjemgohlpaaGreatDoorAm1
import Derived.Lib.UnsafeStr
import Derived.MapKept
import Derived.Laws.MakeOwn
import Derived.Laws.IdiomCopy
import Derived.Laws.IdiomStrings
import Derived.Lib.ConvBytes
import Derived.Lib.AppendZeros
import Derived.Deep.AppendSrc
import Derived.Deep.Upon
import Derived.Lib.Builder

/- The abstract machine: operations that look at no memory, one for one. -/
namespace Go.Proofs.YtjmohjemgohlpaaGreatDoor.Am
open Go

/-- what is shown of an operation: it comes to a value, in the world as it was -/
def Gives (P : Program) (ρ : Ren) (a : Act) (o : Oper) (v : Value) (w : World) : Prop := ∃ v', (execOp a.eval o).run P w = .ok (.value v') w ∧ VRel ρ v v'

section
variable {P : Program} {okx : Operand → Bool} {ρ : Ren} {F : Fr} {a : Act} {o : Oper} {v : Value} {w : World}

theorem gives_mov (he : EvR okx ρ F a) {x : Operand} (hx : okx x = true) (ho : o.op = .move x ∨ o.op = .assign x) (hv : pureOp F (.mov x) = some v) : Gives P ρ a o v w := by
  simp only [pureOp, Option.some.injEq] at hv
  subst hv
  rcases ho with ho | ho <;> exact ⟨a.eval x, by simp [execOp, ho], he x hx⟩

theorem gives_pick (he : EvR okx ρ F a) {c x y : Operand} (hc : okx c = true) (hx : okx x = true) (hy : okx y = true) (ho : o.op = .pick c x y) (hv : pureOp F (.pick c x y) = some v) : Gives P ρ a o v w := by
  simp only [pureOp] at hv
  have h := he c hc
  split at hv
  · rename_i hb; rw [hb] at h; cases hv
    exact ⟨a.eval x, by simp [execOp, ho, h.bool, asBool], he x hx⟩
  · rename_i hb; rw [hb] at h; cases hv
    exact ⟨a.eval y, by simp [execOp, ho, h.bool, asBool], he y hy⟩
  · cases hv

theorem gives_nilck (he : EvR okx ρ F a) {x : Operand} (hx : okx x = true) (ho : o.op = .nilCheck x) (hv : pureOp F (.nilck x) = some v) : Gives P ρ a o v w := by
  simp only [pureOp] at hv
  have h := he x hx
  split at hv
  · rename_i b hb; rw [hb] at h; cases hv
    obtain ⟨g, s, hg, e⟩ := h.inv_pointer
    exact ⟨a.eval x, by simp [execOp, ho, e], h⟩
  · rename_i b hb; rw [hb] at h; cases hv
    obtain ⟨a', b', e, _⟩ := h.inv_func
    exact ⟨a.eval x, by simp [execOp, ho, e], h⟩
  · rename_i b hb; rw [hb] at h; cases hv
    obtain ⟨l, e, _⟩ := h.inv_yield
    exact ⟨a.eval x, by simp [execOp, ho, e], h⟩
  · rename_i b hb; rw [hb] at h; cases hv
    obtain ⟨y, e, _⟩ := h.inv_iface
    exact ⟨a.eval x, by simp [execOp, ho, e], h⟩
  · cases hv

theorem gives_of_bin {op : BinOp} {t yt : TypeId} {x y : Operand} (ho : o.op = .binOp op t x y yt) {v' : Value}
    (h : (do eqGuard op t x y (a.eval x) (a.eval y); Go.binOp op t (a.eval x) (a.eval y) : Sem Value).run P w = .ok v' w) (hr : VRel ρ v v') : Gives P ρ a o v w := by
  refine ⟨v', ?_, hr⟩
  simp only [execOp, ho]
  simp only [Sem.run_bind] at h ⊢
  rw [h]
  rfl

theorem gives_eqn (he : EvR okx ρ F a) {op : BinOp} {t yt : TypeId} {x y : Operand} {c : COp} {k : Nat} (hx : okx x = true) (hy : okx y = true) (ho : o.op = .binOp op t x y yt)
    (hk : kindOk P t k) (hc : compEq op k x y = some c) (hv : pureOp F c = some v) : Gives P ρ a o v w := by
  have h1 := he x hx
  have h2 := he y hy
  have hcc : (isConst x || isConst y) = true → isConst x = true ∨ isConst y = true := fun h => by simpa using h
  unfold compEq at hc
  split at hc
  · cases hc
    simp only [pureOp, Option.map_eq_some_iff] at hv
    obtain ⟨b, hb, rfl⟩ := hv
    exact gives_of_bin ho (eqNil_run hb h1 h2 hk false x y hcc w) (.flat rfl)
  · cases hc
    simp only [pureOp, Option.map_eq_some_iff] at hv
    obtain ⟨b, hb, rfl⟩ := hv
    exact gives_of_bin ho (eqNil_run hb h1 h2 hk true x y hcc w) (.flat rfl)
  · cases hc

theorem gives_bin (he : EvR okx ρ F a) {op : BinOp} {t yt : TypeId} {x y : Operand} {c : COp} (hx : okx x = true) (hy : okx y = true) (ho : o.op = .binOp op t x y yt)
    (hc : compBin P op t x y = some c) (hv : pureOp F c = some v) : Gives P ρ a o v w := by
  have h1 := he x hx
  have h2 := he y hy
  unfold compBin at hc
  cases hu : P.underlying t with
  | none => simp [hu] at hc
  | some d =>
    rw [hu] at hc
    cases d with
    | int k =>
      cases hc
      obtain ⟨hr, hf, f1, f2⟩ := binV_run (P := P) (t := t) hv x y w
      exact gives_of_bin ho (by rw [h1.eq_of_flat0 f1, h2.eq_of_flat0 f2]; exact hr) (.flat hf)
    | string =>
      cases hc
      obtain ⟨hr, hf, f1, f2⟩ := binV_run (P := P) (t := t) hv x y w
      exact gives_of_bin ho (by rw [h1.eq_of_flat0 f1, h2.eq_of_flat0 f2]; exact hr) (.flat hf)
    | bool =>
      simp only at hc
      split at hc
      · cases hc
        simp only [pureOp] at hv
        split at hv
        · rename_i p q e1 e2; rw [e1] at h1; rw [e2] at h2
          cases hv
          exact gives_of_bin ho (by rw [h1.bool, h2.bool]; exact eqb_run hu false p q x y w) (.flat rfl)
        · cases hv
      · cases hc
        simp only [pureOp] at hv
        split at hv
        · rename_i p q e1 e2; rw [e1] at h1; rw [e2] at h2
          cases hv
          exact gives_of_bin ho (by rw [h1.bool, h2.bool]; exact eqb_run hu true p q x y w) (.flat rfl)
        · cases hv
      · cases hc
    | pointer e =>
      simp only at hc
      split at hc
      · rename_i hi
        obtain ⟨j, hj⟩ := Option.isSome_iff_exists.1 hi
        exact gives_eqn he hx hy ho (k := 0) ⟨_, j, hu, hj⟩ hc hv
      · cases hc
    | slice e => exact gives_eqn he hx hy ho (k := 1) ⟨_, hu⟩ hc hv
    | map e f => exact gives_eqn he hx hy ho (k := 2) ⟨_, _, hu⟩ hc hv
    | func e f g => exact gives_eqn he hx hy ho (k := 3) ⟨_, _, _, hu⟩ hc hv
    | interface m => exact gives_eqn he hx hy ho (k := 4) ⟨_, hu⟩ hc hv
    | struct fs =>
      simp only at hc
      cases hk : plainTy P 20 t with
      | none => simp [hk] at hc
      | some ks =>
        simp only [hk] at hc
        split at hc
        · cases hc
        · rename_i hg
          have hg' : P.eqGuardType P.depth t = false := by simpa using hg
          have hagg : tyAgg P t = some true := by simp [tyAgg, hu]
          split at hc
          · cases hc
            simp only [pureOp] at hv
            split at hv
            · rename_i xs ys e1 e2; rw [e1] at h1; rw [e2] at h2
              simp only [Option.map_eq_some_iff] at hv
              obtain ⟨b, hb, rfl⟩ := hv
              exact gives_of_bin ho (eqc_run hb hk hagg hg' h1 h2 false x y w) (.flat rfl)
            · cases hv
          · cases hc
            simp only [pureOp] at hv
            split at hv
            · rename_i xs ys e1 e2; rw [e1] at h1; rw [e2] at h2
              simp only [Option.map_eq_some_iff] at hv
              obtain ⟨b, hb, rfl⟩ := hv
              exact gives_of_bin ho (eqc_run hb hk hagg hg' h1 h2 true x y w) (.flat rfl)
            · cases hv
          · cases hc
    | _ => simp at hc

theorem gives_un (he : EvR okx ρ F a) {op : UnOp} {t : TypeId} {x : Operand} (hx : okx x = true) (ho : o.op = .unOp op t x) (hv : pureOp F (.un op x) = some v) : Gives P ρ a o v w := by
  have h1 := he x hx
  simp only [pureOp] at hv
  unfold unV at hv
  split at hv
  · rename_i e; rw [e] at h1; cases hv
    exact ⟨_, by simp [execOp, ho, h1.int, Op.unary, Op.intArith], .flat rfl⟩
  · rename_i e; rw [e] at h1; cases hv
    exact ⟨_, by simp [execOp, ho, h1.int, Op.unary, Op.intBits], .flat rfl⟩
  · rename_i e; rw [e] at h1; cases hv
    exact ⟨_, by simp [execOp, ho, h1.bool, Op.unary], .flat rfl⟩
  · cases hv

theorem gives_conv (he : EvR okx ρ F a) {s d : TypeId} {x : Operand} {c : COp} (hx : okx x = true) (ho : o.op = .convert s d x) (hc : compConv P s d x = some c) (hp : c.isPure = true) (hv : pureOp F c = some v) : Gives P ρ a o v w := by
  have h1 := he x hx
  unfold compConv at hc
  split at hc
  · rename_i hs hd
    cases hc
    simp only [pureOp] at hv
    split at hv
    · rename_i e; rw [e] at h1; cases hv
      exact ⟨_, by simp [execOp, ho, h1.int, convert, run_underlying hs, run_underlying hd, Conv.intToInt], .flat rfl⟩
    · cases hv
  · rename_i hs hd
    cases hc
    simp only [pureOp] at hv
    split at hv
    · rename_i e; rw [e] at h1; cases hv
      exact ⟨_, by simp [execOp, ho, h1.string, convert, run_underlying hs, run_underlying hd], .flat rfl⟩
    · cases hv
  · split at hc
    · cases hc; simp [COp.isPure] at hp
    · cases hc
  · split at hc
    · cases hc; simp [COp.isPure] at hp
    · cases hc
  · split at hc
    · split at hc
      · cases hc
      · cases hc; simp [COp.isPure] at hp
    · cases hc
  · split at hc
    · split at hc
      · cases hc
      · cases hc; simp [COp.isPure] at hp
    · cases hc
  · cases hc

theorem gives_ifc (he : EvR okx ρ F a) {t : TypeId} {x : Operand} {d : TypeDesc} (hx : okx x = true) (ho : o.op = .makeInterface t x) (hu : P.underlying t = some d) (hd : ∀ m, d ≠ .interface m) (hv : pureOp F (.ifc t x) = some v) : Gives P ρ a o v w := by
  simp only [pureOp, Option.some.injEq] at hv
  subst hv
  refine ⟨.iface t (a.eval x), ?_, .iface (he x hx)⟩
  cases d <;> first | exact absurd rfl (hd _) | simp [execOp, ho, Instr.makeInterface, run_underlying hu]

theorem gives_fn (he : EvR okx ρ F a) {f : FuncId} {p q : Array Operand} (hp : ∀ x ∈ p, okx x = true) (hq : ∀ x ∈ q, okx x = true) (ho : o.op = .makeFunc (.func f) p q) (hv : pureOp F (.fn f p.toList q.toList) = some v) : Gives P ρ a o v w := by
  simp only [pureOp, Option.some.injEq] at hv
  subst hv
  have h1 := VsRel.map_eval he p.toList (fun x hx => hp x (by simpa using hx))
  have h2 := VsRel.map_eval he q.toList (fun x hx => hq x (by simpa using hx))
  refine ⟨.func (.func f) (p.map a.eval) (q.map a.eval), by simp [execOp, ho, Instr.makeFunc], .func ?_ ?_ ?_ ?_⟩
  · simp
  · simp
  · intro i v v' e1 e2; exact h1.2 i v v' (by simpa using e1) (by simpa using e2)
  · intro i v v' e1 e2; exact h2.2 i v v' (by simpa using e1) (by simpa using e2)

theorem gives_ext (he : EvR okx ρ F a) {x : Operand} {i : Nat} (hx : okx x = true) (ho : o.op = .extract x i) (hv : pureOp F (.ext x i) = some v) : Gives P ρ a o v w := by
  have h1 := he x hx
  simp only [pureOp] at hv
  split at hv
  · rename_i e; rw [e] at h1
    obtain ⟨cs', e', hr⟩ := h1.inv_tuple
    obtain ⟨v', hv', hvr⟩ := hr.get (i := i) (v := v) (by simpa using hv)
    refine ⟨v', ?_, hvr⟩
    have : cs'[i]? = some v' := by simpa using hv'
    simp [execOp, ho, e', Instr.extract, this]
  · cases hv

theorem gives_fad (he : EvR okx ρ F a) {t : TypeId} {x : Operand} {i : Nat} {fs : Array Field} {f : Field} {s : Nat} (hx : okx x = true) (ho : o.op = .fieldAddr t x i) (hu : P.underlying t = some (.struct fs)) (hf : fs[i]? = some f)
    (hs : tySize P f.type = some s) (h0 : s ≠ 0) (hv : pureOp F (.fad x f.offset) = some v) : Gives P ρ a o v w := by
  have h1 := he x hx
  simp only [pureOp] at hv
  split at hv
  · rename_i b e; rw [e] at h1; cases hv
    obtain ⟨g, sh, hg, e'⟩ := h1.inv_pointer
    have := VRel.pointer (ρ := ρ) (a := ⟨b.block, b.off + f.offset, none⟩) (g := g) (s := sh) hg
    refine ⟨.pointer (some ⟨g, sh + (b.off + f.offset), none⟩), ?_, this⟩
    simp [execOp, ho, e', Instr.fieldAt, run_underlying hu, hf, Instr.sureAddr, fieldPlace, run_tySize w hs, h0, Nat.add_assoc, Addr.add]
  · cases hv

theorem gives_fld (he : EvR okx ρ F a) {t : TypeId} {x : Operand} {i : Nat} {fs : Array Field} {f : Field} {s : Nat} {b : Bool} (hx : okx x = true) (ho : o.op = .field t x i) (hu : P.underlying t = some (.struct fs)) (hf : fs[i]? = some f)
    (hs : tySize P f.type = some s) (ha : tyAgg P f.type = some b) (hv : pureOp F (if b then .fldn x f.offset s else .fld1 x f.offset) = some v) : Gives P ρ a o v w := by
  have h1 := he x hx
  cases b with
  | true =>
    simp only [if_true, pureOp] at hv
    split at hv
    · rename_i cs e; rw [e] at h1; cases hv
      obtain ⟨cs', e', hr⟩ := h1.inv_agg
      refine ⟨_, ?_, VsRel.agg ((hr.drop f.offset).take s)⟩
      simp [execOp, ho, e', Instr.field, run_underlying hu, hf, asAgg, run_part_agg ha hs]
    · cases hv
  | false =>
    simp only [Bool.false_eq_true, if_false, pureOp] at hv
    split at hv
    · rename_i cs e; rw [e] at h1
      obtain ⟨cs', e', hr⟩ := h1.inv_agg
      obtain ⟨v', hv', hvr⟩ := hr.get hv
      refine ⟨v', ?_, hvr⟩
      simp [execOp, ho, e', Instr.field, run_underlying hu, hf, asAgg, run_part_one ha cs' _ hv']
    · cases hv

theorem gives_iad (he : EvR okx ρ F a) {t e : TypeId} {x i : Operand} {s : Nat} (hx : okx x = true) (hi : okx i = true) (ho : o.op = .indexAddr t x i) (hu : P.underlying t = some (.slice e)) (hs : tySize P e = some s)
    (hv : pureOp F (.iad s x i) = some v) : Gives P ρ a o v w := by
  have h1 := he x hx
  have h2 := he i hi
  simp only [pureOp] at hv
  split at hv
  · rename_i b len c k j e1 e2
    rw [e1] at h1; rw [e2] at h2
    split at hv
    · rename_i hj
      cases hv
      obtain ⟨b', c', e', hlc, hcc, hex, hadr, _⟩ := h1.inv_slice
      obtain ⟨g, sh, hg, rfl⟩ := hadr (by omega)
      refine ⟨.pointer (some ⟨g, sh + (b.off + j.toNat * s), none⟩), ?_, VRel.pointer (a := ⟨b.block, b.off + j.toNat * s, none⟩) hg⟩
      simp [execOp, ho, e', h2.int, Instr.indexAt, asIntOf, run_underlying hu, hj, run_tySize w hs, Addr.add_lit, Nat.add_assoc]
    · cases hv
  · cases hv

theorem gives_iaa (he : EvR okx ρ F a) {t e : TypeId} {x i : Operand} {n s : Nat} (hx : okx x = true) (hi : okx i = true) (ho : o.op = .indexAddr t x i) (hu : P.underlying t = some (.array n e)) (hs : tySize P e = some s)
    (hv : pureOp F (.iaa n s x i) = some v) : Gives P ρ a o v w := by
  have h1 := he x hx
  have h2 := he i hi
  simp only [pureOp] at hv
  split at hv
  · rename_i b k j e1 e2
    rw [e1] at h1; rw [e2] at h2
    split at hv
    · rename_i hj
      cases hv
      obtain ⟨g, sh, hg, e'⟩ := h1.inv_pointer
      refine ⟨.pointer (some ⟨g, sh + (b.off + j.toNat * s), none⟩), ?_, VRel.pointer (a := ⟨b.block, b.off + j.toNat * s, none⟩) hg⟩
      simp [execOp, ho, e', h2.int, Instr.indexAt, asIntOf, run_underlying hu, hj, run_tySize w hs, Instr.sureAddr, Addr.add_lit, Nat.add_assoc]
    · cases hv
  · cases hv

theorem gives_ida (he : EvR okx ρ F a) {t e : TypeId} {x i : Operand} {n s : Nat} {b : Bool} (hx : okx x = true) (hi : okx i = true) (ho : o.op = .index t x i) (hu : P.underlying t = some (.array n e)) (hs : tySize P e = some s)
    (ha : tyAgg P e = some b) (hv : pureOp F (if b then .idan n s x i else .ida1 n s x i) = some v) : Gives P ρ a o v w := by
  have h1 := he x hx
  have h2 := he i hi
  cases b with
  | true =>
    simp only [if_true, pureOp] at hv
    split at hv
    · rename_i cs k j e1 e2
      rw [e1] at h1; rw [e2] at h2
      split at hv
      · rename_i hj
        cases hv
        obtain ⟨cs', e', hr⟩ := h1.inv_agg
        refine ⟨_, ?_, VsRel.agg ((hr.drop (j.toNat * s)).take s)⟩
        simp [execOp, ho, e', h2.int, Instr.index, asIntOf, run_underlying hu, hj, run_tySize w hs, run_part_agg ha hs]
      · cases hv
    · cases hv
  | false =>
    simp only [Bool.false_eq_true, if_false, pureOp] at hv
    split at hv
    · rename_i cs k j e1 e2
      rw [e1] at h1; rw [e2] at h2
      split at hv
      · rename_i hj
        obtain ⟨cs', e', hr⟩ := h1.inv_agg
        obtain ⟨v', hv', hvr⟩ := hr.get hv
        refine ⟨v', ?_, hvr⟩
        simp [execOp, ho, e', h2.int, Instr.index, asIntOf, run_underlying hu, hj, run_tySize w hs, run_part_one ha cs' _ hv']
      · cases hv
    · cases hv

theorem gives_ids (he : EvR okx ρ F a) {t : TypeId} {x i : Operand} (hx : okx x = true) (hi : okx i = true) (ho : o.op = .index t x i) (hu : P.underlying t = some .string) (hv : pureOp F (.ids x i) = some v) : Gives P ρ a o v w := by
  have h1 := he x hx
  have h2 := he i hi
  simp only [pureOp] at hv
  split at hv
  · rename_i s k j e1 e2
    rw [e1] at h1; rw [e2] at h2
    split at hv
    · rename_i hj
      simp only [Option.map_eq_some_iff] at hv
      obtain ⟨b, hb, rfl⟩ := hv
      refine ⟨.int .u8 b.toNat, ?_, .flat rfl⟩
      simp [execOp, ho, h1.string, h2.int, Instr.index, asIntOf, run_underlying hu, hj, hb]
    · cases hv
  · cases hv

/-! ### The bounds of a slice expression -/
theorem bound_run (he : EvR okx ρ F a) {x : Operand} (hx : okx x = true) {d most n : Nat} (h : bound (some (F.eval x)) d most = some n) {most' : Nat} (hm : most ≤ most') (code : BoundsCode) :
    n ≤ most ∧ ∀ w, (Instr.sliceBound (a.eval x) most' code).run P w = .ok n w := by
  have h1 := he x hx
  cases hv : F.eval x with
  | int k i =>
    rw [hv] at h h1
    simp only [bound] at h
    split at h
    · rename_i hi
      cases h
      refine ⟨by omega, fun w => ?_⟩
      have : 0 ≤ i ∧ i ≤ (most' : Int) := by omega
      rw [h1.int]
      simp [Instr.sliceBound, asIntOf, this]
    · cases h
  | _ => rw [hv] at h; simp [bound] at h

theorem bounds_run (he : EvR okx ρ F a) {lo hi mx : Option Operand} (hlo : ∀ x, lo = some x → okx x = true) (hhi : ∀ x, hi = some x → okx x = true) (hmx : ∀ x, mx = some x → okx x = true)
    {len cap l h m : Nat} (hb : bounds len cap (lo.map F.eval) (hi.map F.eval) (mx.map F.eval) = some (l, h, m)) (hlen : len ≤ cap) {cap' : Nat} (hcap : cap ≤ cap') (isSlice : Bool) :
    ∃ m', (∀ w, (Instr.sliceBounds isSlice len cap' (lo.map a.eval) (hi.map a.eval) (mx.map a.eval)).run P w = .ok (l, h, m') w) ∧ (mx = none → m' = cap' ∧ m = cap) ∧ (mx ≠ none → m' = m) ∧ l ≤ h ∧ h ≤ m ∧ m ≤ cap := by
  unfold bounds at hb
  split at hb
  · cases hb
  · rename_i hmh
    split at hb
    · cases hb
    · rename_i m0 hm0
      split at hb
      · cases hb
      · rename_i h0 hh0
        split at hb
        · cases hb
        · rename_i l0 hl0
          cases hb
          have lowest : ∀ (hd : Nat), lo = none → l = 0 := fun hd e => by subst e; simpa [bound] using hl0.symm
          cases mx with
          | none =>
            have hm1 : m = cap := by simpa [bound] using hm0.symm
            subst hm1
            cases hi with
            | none =>
              have hh1 : h = len := by simpa [bound] using hh0.symm
              subst hh1
              cases lo with
              | none =>
                have hl1 : l = 0 := by simpa [bound] using hl0.symm
                subst hl1
                exact ⟨cap', fun w => by simp [Instr.sliceBounds], fun _ => ⟨rfl, rfl⟩, fun h => absurd rfl h, Nat.zero_le _, hlen, Nat.le_refl _⟩
              | some x =>
                obtain ⟨h1, h2⟩ := bound_run (P := P) he (hlo x rfl) hl0 (Nat.le_refl _) .sliceB
                exact ⟨cap', fun w => by simp [Instr.sliceBounds, h2], fun _ => ⟨rfl, rfl⟩, fun h => absurd rfl h, h1, hlen, Nat.le_refl _⟩
            | some y =>
              obtain ⟨g1, g2⟩ := bound_run (P := P) he (hhi y rfl) hh0 hcap (if isSlice then .sliceAcap else .sliceAlen)
              cases lo with
              | none =>
                have hl1 : l = 0 := by simpa [bound] using hl0.symm
                subst hl1
                exact ⟨cap', fun w => by simp [Instr.sliceBounds, g2], fun _ => ⟨rfl, rfl⟩, fun h => absurd rfl h, Nat.zero_le _, g1, Nat.le_refl _⟩
              | some x =>
                obtain ⟨h1, h2⟩ := bound_run (P := P) he (hlo x rfl) hl0 (Nat.le_refl _) .sliceB
                exact ⟨cap', fun w => by simp [Instr.sliceBounds, g2, h2], fun _ => ⟨rfl, rfl⟩, fun h => absurd rfl h, h1, g1, Nat.le_refl _⟩
          | some z =>
            obtain ⟨hm1, hm2⟩ := bound_run (P := P) he (hmx z rfl) hm0 hcap (if isSlice then .slice3Acap else .slice3Alen)
            cases hi with
            | none => simp at hmh
            | some y =>
              obtain ⟨g1, g2⟩ := bound_run (P := P) he (hhi y rfl) hh0 (Nat.le_refl _) .slice3B
              cases lo with
              | none =>
                have hl1 : l = 0 := by simpa [bound] using hl0.symm
                subst hl1
                exact ⟨m, fun w => by simp [Instr.sliceBounds, hm2, g2], fun h => by simp at h, fun _ => rfl, Nat.zero_le _, g1, hm1⟩
              | some x =>
                obtain ⟨h1, h2⟩ := bound_run (P := P) he (hlo x rfl) hl0 (Nat.le_refl _) .slice3C
                exact ⟨m, fun w => by simp [Instr.sliceBounds, hm2, g2, h2], fun h => by simp at h, fun _ => rfl, h1, g1, hm1⟩

theorem gives_sl (he : EvR okx ρ F a) {t e : TypeId} {x : Operand} {lo hi mx : Option Operand} {s : Nat} (hx : okx x = true) (hlo : ∀ x, lo = some x → okx x = true) (hhi : ∀ x, hi = some x → okx x = true)
    (hmx : ∀ x, mx = some x → okx x = true) (ho : o.op = .slice t x lo hi mx) (hu : P.underlying t = some (.slice e)) (hs : tySize P e = some s) (hv : pureOp F (.sl s x lo hi mx) = some v) : Gives P ρ a o v w := by
  have h1 := he x hx
  simp only [pureOp] at hv
  cases hvx : F.eval x with
  | slice base len cap =>
    rw [hvx] at h1 hv
    cases base with
    | none =>
      have e1 := h1.inv_snil
      simp only [sliceV] at hv
      split at hv
      · rename_i hlen
        split at hv
        · rename_i l h m hb
          cases hv
          obtain ⟨m', hr, h1', h2', _⟩ := bounds_run (P := P) he hlo hhi hmx hb hlen (Nat.le_refl _) true
          have hm : m' = m := by
            cases mx with
            | none => have := h1' rfl; omega
            | some z => exact h2' (by simp)
          subst hm
          refine ⟨.slice none (h - l) (m' - l), ?_, .flat rfl⟩
          simp [execOp, ho, e1, Instr.sliceAt, run_underlying hu, Instr.slice, hr, run_tySize w hs]
        · cases hv
      · cases hv
    | some b =>
      obtain ⟨b', cap', e1, hlc, hcc, hex, hadr, hroom⟩ := h1.inv_slice
      simp only [sliceV] at hv
      split at hv
      · rename_i l h m hb
        cases hv
        obtain ⟨m', hr, h1', h2', hlh, hhm, hmc⟩ := bounds_run (P := P) he hlo hhi hmx hb hlc hcc true
        refine ⟨.slice (some (if m' = l then b' else b'.add (l * s))) (h - l) (m' - l), ?_, ?_⟩
        · simp [execOp, ho, e1, Instr.sliceAt, run_underlying hu, Instr.slice, hr, run_tySize w hs]
          split <;> rfl
        · have hmm : m ≤ m' := by
            cases mx with
            | none => have := h1' rfl; omega
            | some z => have := h2' (by simp); omega
          refine .slice (by omega) (by omega) (fun hx => ?_) (fun hpos => ?_) (fun k hk hpos => ?_)
          · cases mx with
            | none =>
              have := h1' rfl
              have hbx : isExact b = true := by
                simp only [Option.map_none, Option.isSome_none, Bool.false_eq_true, if_false] at hx
                split at hx
                · exact hx
                · rw [isExact_mk] at hx
                  split at hx
                  · exact isExact_iff.2 hx
                  · cases hx
              have := hex hbx
              omega
            | some z => have := h2' (by simp); omega
          · have hcp : 0 < cap := by omega
            obtain ⟨g, sh, hg, rfl⟩ := hadr hcp
            have hml : ¬ m = l := by omega
            have hml' : ¬ m' = l := by omega
            refine ⟨g, sh, ?_, ?_⟩
            · simp only [hml, if_false]
              split <;> exact hg
            · simp only [hml, hml', if_false, Addr.add_lit]
              split <;> simp [exact, Nat.add_assoc]
          · cases mx with
            | some z => simp [exact, isRoomy] at hk
            | none =>
              have hcp : 0 < cap := by omega
              obtain ⟨g, sh, hg, rfl⟩ := hadr hcp
              have hml : ¬ m = l := by omega
              have hml' : ¬ m' = l := by omega
              simp only [Option.map_none, Option.isSome_none, Bool.false_eq_true, if_false, hml] at hk
              have hk2 : isRoomy b k = true ∧ k = s := by
                rw [isRoomy_mk] at hk
                split at hk
                · rename_i hc
                  refine ⟨isRoomy_iff.2 hk, ?_⟩
                  rcases Bool.or_eq_true _ _ ▸ hc with h | h
                  · rw [isExact_iff, hk] at h; cases h
                  · rw [isRoomy_iff, hk] at h; cases h; rfl
                · cases hk
              obtain ⟨hk3, rfl⟩ := hk2
              obtain ⟨N, hN, hle⟩ := hroom k hk3 hcp
              refine ⟨N, ?_, ?_⟩
              · simp only [hml', if_false, Addr.add_lit]; exact hN
              · simp only [hml', if_false, Addr.add_lit]
                have e1 : l * k + (m' - l) * k = m' * k := by rw [← Nat.add_mul]; congr 1; omega
                have e2 : m' * k ≤ cap' * k := Nat.mul_le_mul_right k (by have := h1' rfl; omega)
                simp only at hle
                omega
      · cases hv
  | _ => rw [hvx] at hv; simp [sliceV] at hv

theorem gives_sla (he : EvR okx ρ F a) {t e : TypeId} {x : Operand} {lo hi mx : Option Operand} {n s : Nat} (hx : okx x = true) (hlo : ∀ x, lo = some x → okx x = true) (hhi : ∀ x, hi = some x → okx x = true)
    (hmx : ∀ x, mx = some x → okx x = true) (ho : o.op = .slice t x lo hi mx) (hu : P.underlying t = some (.array n e)) (hs : tySize P e = some s) (hv : pureOp F (.sla n s x lo hi mx) = some v) : Gives P ρ a o v w := by
  have h1 := he x hx
  simp only [pureOp] at hv
  cases hvx : F.eval x with
  | pointer b0 =>
    cases b0 with
    | none => rw [hvx] at hv; simp [sliceArr] at hv
    | some b =>
      rw [hvx] at h1 hv
      obtain ⟨g, sh, hg, e1⟩ := h1.inv_pointer
      simp only [sliceArr] at hv
      split at hv
      · rename_i l h m hb
        cases hv
        obtain ⟨m', hr, h1', h2', hlh, hhm, hmc⟩ := bounds_run (P := P) he hlo hhi hmx hb (Nat.le_refl _) (Nat.le_refl _) false
        have hm : m' = m := by
          cases mx with
          | none => have := h1' rfl; omega
          | some z => exact h2' (by simp)
        subst hm
        refine ⟨.slice (some (if m' = l then ⟨g, sh + b.off, none⟩ else (⟨g, sh + b.off, none⟩ : Addr).add (l * s))) (h - l) (m' - l), ?_, ?_⟩
        · simp [execOp, ho, e1, Instr.sliceAt, run_underlying hu, Instr.sureAddr, hr, run_tySize w hs]
        · refine .slice (by omega) (Nat.le_refl _) (fun _ => rfl) (fun hpos => ⟨g, sh, ?_, ?_⟩) (fun k hk _ => by simp [exact, isRoomy] at hk)
          · split <;> simpa [exact] using hg
          · have hml : ¬ m' = l := by omega
            simp [hml, Addr.add_lit, exact, Nat.add_assoc]
      · cases hv
  | _ => rw [hvx] at hv; simp [sliceArr] at hv

theorem gives_sls (he : EvR okx ρ F a) {t : TypeId} {x : Operand} {lo hi : Option Operand} (hx : okx x = true) (hlo : ∀ x, lo = some x → okx x = true) (hhi : ∀ x, hi = some x → okx x = true)
    (ho : o.op = .slice t x lo hi none) (hu : P.underlying t = some .string) (hv : pureOp F (.sls x lo hi) = some v) : Gives P ρ a o v w := by
  have h1 := he x hx
  simp only [pureOp] at hv
  cases hvx : F.eval x with
  | string str =>
    rw [hvx] at h1 hv
    simp only [sliceStr] at hv
    split at hv
    · rename_i l h m hb
      cases hv
      obtain ⟨m', hr, _⟩ := bounds_run (P := P) he hlo hhi (mx := none) (fun x h => by cases h) hb (Nat.le_refl _) (Nat.le_refl _) false
      simp only [Option.map_none] at hr
      refine ⟨_, ?_, .flat rfl⟩
      simp [execOp, ho, h1.string, Instr.sliceAt, run_underlying hu, Instr.slice, hr]
    · cases hv
  | _ => rw [hvx] at hv; simp [sliceStr] at hv

/-! ### A struct or an array is put together -/
theorem VsRel.fillA {ρ : Ren} : ∀ (ps ps' : List (Nat × Nat × Value)) (c c' r : List Value), VsRel ρ c c' → ps.length = ps'.length → (∀ (i : Nat) x x', ps[i]? = some x → ps'[i]? = some x' → x.1 = x'.1 ∧ x.2.1 = x'.2.1 ∧ VRel ρ x.2.2 x'.2.2) →
    Am.fillA c ps = some r → ∃ r', Am.fillA c' ps' = some r' ∧ VsRel ρ r r' := by
  intro ps
  induction ps with
  | nil => intro ps' c c' r hc hl _ h; cases ps' with
    | nil => simp only [Am.fillA, Option.some.injEq] at h; subst h; exact ⟨c', rfl, hc⟩
    | cons _ _ => simp at hl
  | cons p ps ih =>
    intro ps' c c' r hc hl hp h
    cases ps' with
    | nil => simp at hl
    | cons p' ps' =>
      obtain ⟨o1, s1, v1⟩ := p
      obtain ⟨o2, s2, v2⟩ := p'
      have h0 := hp 0 _ _ rfl rfl
      simp only at h0
      obtain ⟨rfl, rfl, hv⟩ := h0
      simp only [Am.fillA] at h ⊢
      split at h
      · rename_i hcond
        have hcl := hv.cells
        have hcond' : v2.cells.toList.length = s1 ∧ o1 + s1 ≤ c'.length := by rw [← hcl.1, ← hc.1]; exact hcond
        rw [if_pos hcond']
        exact ih ps' _ _ r (VsRel.setAll hc hcl (by omega)) (by simpa using hl) (fun i x x' e1 e2 => hp (i + 1) x x' (by simpa using e1) (by simpa using e2)) h
      · cases h

/-- the model's filling in -/
theorem fill_eq (place : Nat → Option (Nat × Nat)) : ∀ (ps : List (Nat × Value)) (qs : List (Nat × Nat × Value)) (c r : List Value), ps.length = qs.length →
    (∀ (i : Nat) x y, ps[i]? = some x → qs[i]? = some y → place x.1 = some (y.1, y.2.1) ∧ x.2 = y.2.2) → fillA c qs = some r → Instr.fill place ⟨c⟩ ps = some ⟨r⟩ := by
  intro ps
  induction ps with
  | nil => intro qs c r hl _ h; cases qs with
    | nil => simp only [fillA, Option.some.injEq] at h; subst h; rfl
    | cons _ _ => simp at hl
  | cons p ps ih =>
    intro qs c r hl hp h
    cases qs with
    | nil => simp at hl
    | cons q qs =>
      obtain ⟨i, v⟩ := p
      obtain ⟨off, s, u⟩ := q
      obtain ⟨h1, h2⟩ := hp 0 _ _ rfl rfl
      simp only at h1 h2
      subst h2
      simp only [fillA] at h
      split at h
      · rename_i hcond
        have hsz : v.cells.size = s := by simpa using hcond.1
        simp only [Instr.fill, h1]
        have hc2 : ¬ (v.cells.size ≠ s || off + v.cells.size > c.toArray.size) = true := by simp [hsz]; omega
        have hc3 : (decide (v.cells.size ≠ s) || decide (off + v.cells.size > (⟨c⟩ : Array Value).size)) = false := by simp [hsz]; omega
        rw [if_neg (by simpa using hc2)]
        have hfold : (v.cells.zipIdx.foldl (fun cs (x : Value × Nat) => cs.setIfInBounds (off + x.2) x.1) (⟨c⟩ : Array Value)) = ⟨setAll c off v.cells.toList⟩ := by
          have := foldl_set off v.cells.toList 0 (⟨c⟩ : Array Value) (by simp; omega)
          simp only [Nat.add_zero] at this
          rw [← this, ← Array.foldl_toList, Array.toList_zipIdx]
        have hfold' : (v.cells.zipIdx.foldl (fun cs (x : Value × Nat) => match x with | (c, j) => cs.setIfInBounds (off + j) c) (⟨c⟩ : Array Value)) = ⟨setAll c off v.cells.toList⟩ := hfold
        rw [hfold']
        exact ih qs _ r (by simpa using hl) (fun i x y e1 e2 => hp (i + 1) x y (by simpa using e1) (by simpa using e2)) h
      · cases h

theorem partsOf_spec {place : Nat → Option (Nat × Nat)} : ∀ {ps : List (Nat × Operand)} {qs : List (Nat × Nat × Operand)}, partsOf place ps = some qs →
    ps.length = qs.length ∧ ∀ (i : Nat) x q, ps[i]? = some x → qs[i]? = some q → place x.1 = some (q.1, q.2.1) ∧ q.2.2 = x.2 := by
  intro ps
  induction ps with
  | nil => intro qs h; simp only [partsOf, Option.some.injEq] at h; subst h; exact ⟨rfl, fun i x q h _ => by simp at h⟩
  | cons p ps ih =>
    intro qs h
    obtain ⟨i, x⟩ := p
    simp only [partsOf] at h
    split at h
    · rename_i off sz l h1 h2
      cases h
      obtain ⟨a1, a2⟩ := ih h2
      refine ⟨by simp [a1], fun j y q e1 e2 => ?_⟩
      cases j with
      | zero => simp at e1 e2; subst e1 e2; exact ⟨h1, rfl⟩
      | succ j => exact a2 j y q (by simpa using e1) (by simpa using e2)
    · cases h

/-- filling in with operands' values -/
theorem fill_run (he : EvR okx ρ F a) {place : Nat → Option (Nat × Nat)} {ps : List (Nat × Operand)} {qs : List (Nat × Nat × Operand)} (hops : ∀ x ∈ ps, okx x.2 = true) (hq : partsOf place ps = some qs)
    {z r : List Value} (hz : ∀ u ∈ z, flat0 u = true) (hf : fillA z (qs.map fun x => (x.1, x.2.1, F.eval x.2.2)) = some r) :
    ∃ r', Instr.fill place ⟨z⟩ (ps.map fun x => (x.1, a.eval x.2)) = some ⟨r'⟩ ∧ VsRel ρ r r' := by
  obtain ⟨hl, hp⟩ := partsOf_spec hq
  obtain ⟨r', h1, h2⟩ := VsRel.fillA (ρ := ρ) _ (qs.map fun x => (x.1, x.2.1, a.eval x.2.2)) z z r (VsRel.of_flat hz) (by simp) (fun i x x' e1 e2 => by
    simp only [List.getElem?_map, Option.map_eq_some_iff] at e1 e2
    obtain ⟨q, hq1, rfl⟩ := e1
    obtain ⟨q', hq2, rfl⟩ := e2
    rw [hq1] at hq2; cases hq2
    have hi : i < ps.length := by rw [hl]; exact (List.getElem?_eq_some_iff.1 hq1).1
    obtain ⟨_, e⟩ := hp i _ _ (List.getElem?_eq_getElem hi) hq1
    refine ⟨rfl, rfl, he _ ?_⟩
    rw [e]; exact hops _ (List.getElem_mem hi)) hf
  refine ⟨r', fill_eq place _ _ z r' (by simp [hl]) (fun i x y e1 e2 => ?_) h1, h2⟩
  simp only [List.getElem?_map, Option.map_eq_some_iff] at e1 e2
  obtain ⟨p, hp1, rfl⟩ := e1
  obtain ⟨q, hq1, rfl⟩ := e2
  obtain ⟨e3, e4⟩ := hp i _ _ hp1 hq1
  exact ⟨e3, by rw [e4]⟩

theorem run_places {P : Program} {w : World} : ∀ {fs : List Field} {pl : List (Nat × Nat)}, places P fs = some pl → (fs.mapM (m := Sem) fun f => do pure (f.offset, ← sizeOf f.type)).run P w = .ok pl w := by
  intro fs
  induction fs with
  | nil => intro pl h; simp only [places, Option.some.injEq] at h; subst h; rfl
  | cons f fs ih =>
    intro pl h
    simp only [places] at h
    split at h
    · rename_i s l h1 h2
      cases h
      rw [List.mapM_cons]
      simp only [Sem.run_bind, Sem.run_pure, Result.andThen_ok, run_tySize w h1]
      rw [ih h2]
      rfl
    · cases h

theorem flat_cells {z : Value} (h : Am.flat z = true) (h1 : ∀ cs, z ≠ .tuple cs) : ∀ u ∈ z.cells.toList, flat0 u = true := by
  intro u hu
  cases z with
  | agg cs => exact Array.all_eq_true_iff_forall_mem.1 (show cs.all flat0 = true from h) u (by simpa [Value.cells] using hu)
  | tuple cs => exact absurd rfl (h1 cs)
  | _ => simp [Value.cells] at hu; subst hu; exact h

theorem gives_agg_struct (he : EvR okx ρ F a) {t : TypeId} {ps : Array (Nat × Operand)} {fs : Array Field} {z : Value} {pl : List (Nat × Nat)} {qs : List (Nat × Nat × Operand)} (hops : ∀ x ∈ ps.toList, okx x.2 = true) (ho : o.op = .build t ps)
    (hz : tyZero P t = some z) (hu : P.underlying t = some (.struct fs)) (hpl : places P fs.toList = some pl) (hq : partsOf (fun i => pl[i]?) ps.toList = some qs)
    (hv : pureOp F (.agg z.cells.toList qs) = some v) : Gives P ρ a o v w := by
  simp only [pureOp, Option.map_eq_some_iff] at hv
  obtain ⟨r, hr, rfl⟩ := hv
  obtain ⟨zf, hzt, _⟩ := tyZero_spec hz
  have zr := run_tyZero w hz
  obtain ⟨r', h1, h2⟩ := fill_run he hops hq (flat_cells zf hzt) hr
  refine ⟨.agg ⟨r'⟩, ?_, VsRel.agg h2⟩
  have hm : (fs.mapM (m := Sem) fun f => do pure (f.offset, ← sizeOf f.type)).run P w = .ok pl.toArray w := by
    rw [Array.mapM_eq_mapM_toList, Sem.run_map, run_places hpl]
    rfl
  have h1' : Instr.fill (fun x : Nat => pl.toArray[x]?) z.cells (ps.map (fun x => (x.1, a.eval x.2))).toList = some ⟨r'⟩ := by
    have : (fun x : Nat => pl.toArray[x]?) = fun i : Nat => pl[i]? := by funext i; simp
    rw [this]
    simpa using h1
  simp only [execOp, ho, Instr.build]
  simp only [Sem.run_bind, zr, Result.andThen_ok, run_underlying hu]
  rw [hm]
  simp only [Result.andThen_ok]
  have h1'' : Instr.fill (fun x : Nat => pl.toArray[x]?) z.cells (ps.map (fun x => match x with | (i, x) => (i, a.eval x))).toList = some ⟨r'⟩ := h1'
  rw [h1'']
  rfl

theorem gives_agg_array (he : EvR okx ρ F a) {t e : TypeId} {n s : Nat} {ps : Array (Nat × Operand)} {z : Value} {qs : List (Nat × Nat × Operand)} (hops : ∀ x ∈ ps.toList, okx x.2 = true) (ho : o.op = .build t ps)
    (hz : tyZero P t = some z) (hu : P.underlying t = some (.array n e)) (hs : tySize P e = some s) (hq : partsOf (fun i => some (i * s, s)) ps.toList = some qs)
    (hv : pureOp F (.agg z.cells.toList qs) = some v) : Gives P ρ a o v w := by
  simp only [pureOp, Option.map_eq_some_iff] at hv
  obtain ⟨r, hr, rfl⟩ := hv
  obtain ⟨zf, hzt, _⟩ := tyZero_spec hz
  have zr := run_tyZero w hz
  obtain ⟨r', h1, h2⟩ := fill_run he hops hq (flat_cells zf hzt) hr
  refine ⟨.agg ⟨r'⟩, ?_, VsRel.agg h2⟩
  have h1'' : Instr.fill (fun i => some (i * s, s)) z.cells (ps.map (fun x => match x with | (i, x) => (i, a.eval x))).toList = some ⟨r'⟩ := by
    have : Instr.fill (fun i => some (i * s, s)) z.cells (ps.map (fun x => (x.1, a.eval x.2))).toList = some ⟨r'⟩ := by simpa using h1
    exact this
  simp only [execOp, ho, Instr.build]
  simp only [Sem.run_bind, zr, Result.andThen_ok, run_underlying hu, run_tySize w hs]
  rw [h1'']
  rfl

/-! ### Builtin functions that look at no memory -/
theorem gives_builtin {b : Builtin} {c : Call} {v' : Value} (ho : o.op = .call c) (hb : c.callee = .builtin b)
    (h : (builtin b c.argTypes o.type (c.args.map fun | .const _ => true | _ => false) (c.args.map a.eval)).run P w = .ok (.value v') w) (hr : VRel ρ v v') : Gives P ρ a o v w := by
  refine ⟨v', ?_, hr⟩
  simp only [execOp, ho, resolve, hb]
  exact h

theorem args_one {c : Call} {x : Operand} (h : c.args.toList = [x]) : c.args = #[x] := Array.toList_inj.1 h
theorem args_two {c : Call} {x y : Operand} (h : c.args.toList = [x, y]) : c.args = #[x, y] := Array.toList_inj.1 h

end
end Go.Proofs.YtjmohjemgohlpaaGreatDoor.Am

/- The abstract machine: builtin functions that look at no memory; all operations that look at none. -/
namespace Go.Proofs.YtjmohjemgohlpaaGreatDoor.Am
open Go

section
variable {P : Program} {okx : Operand → Bool} {ρ : Ren} {F : Fr} {a : Act} {o : Oper} {v : Value} {w : World}

theorem mnxF_run (mx : Bool) : ∀ (xs xs' : List Value) (x x' r : Value), VRel ρ x x' → VsRel ρ xs xs' → mnxF mx x xs = some r →
    ∃ r', (xs'.foldlM (if mx then Builtin.max2 else Builtin.min2) x').run P w = .ok r' w ∧ VRel ρ r r' := by
  intro xs
  induction xs with
  | nil =>
    intro xs' x x' r hx hs h
    have : xs' = [] := by have := hs.1; simpa using this.symm
    subst this
    simp only [mnxF, Option.some.injEq] at h
    subst h
    exact ⟨x', rfl, hx⟩
  | cons y xs ih =>
    intro xs' x x' r hx hs h
    obtain ⟨y', ys', rfl, hy, hs'⟩ := hs.inv_cons
    simp only [mnxF] at h
    split at h
    · rename_i z hz
      unfold mnx2 at hz
      split at hz
      · rename_i k p k' q
        have e1 := hx.int
        have e2 := hy.int
        subst e1 e2
        simp only [Option.some.injEq] at hz
        subst hz
        obtain ⟨r', h1, h2⟩ := ih ys' _ _ r (.flat rfl) hs' h
        refine ⟨r', ?_, h2⟩
        rw [List.foldlM_cons, Sem.run_bind]
        cases mx with
        | true => simp only [if_true, Builtin.max2, Sem.run_pure, Result.andThen_ok] at h1 ⊢; exact h1
        | false => simp only [Bool.false_eq_true, if_false, Builtin.min2, Sem.run_pure, Result.andThen_ok] at h1 ⊢; exact h1
      · cases hz
    · cases h

theorem gives_mnx (he : EvR okx ρ F a) {mx : Bool} {c : Call} (hops : ∀ x ∈ c.args.toList, okx x = true) (ho : o.op = .call c) (hb : c.callee = .builtin (if mx then .max else .min)) (hv : pureOp F (.mnx mx c.args.toList) = some v) : Gives P ρ a o v w := by
  simp only [pureOp] at hv
  have hs := VsRel.map_eval he _ hops
  cases hl : c.args.toList with
  | nil => rw [hl] at hv; simp [mnxV] at hv
  | cons x r =>
    rw [hl] at hv hs
    simp only [List.map_cons, mnxV] at hv hs
    obtain ⟨y, ys, e, hy, hys⟩ := hs.inv_cons
    obtain ⟨e1, e2⟩ := List.cons.inj e
    subst e1 e2
    obtain ⟨r', h1, h2⟩ := mnxF_run (P := P) (w := w) mx _ _ _ _ v hy hys hv
    refine gives_builtin ho hb ?_ h2
    cases mx with
    | true =>
      simp only [if_true] at h1 ⊢
      simp only [builtin, Builtin.max_, Array.toList_map, hl, List.map_cons]
      rw [Sem.run_bind, h1]; rfl
    | false =>
      simp only [Bool.false_eq_true, if_false] at h1 ⊢
      simp only [builtin, Builtin.min_, Array.toList_map, hl, List.map_cons]
      rw [Sem.run_bind, h1]; rfl

theorem gives_len (he : EvR okx ρ F a) {c : Call} {x : Operand} {t : TypeId} {op : COp} (hx : okx x = true) (ho : o.op = .call c) (hb : c.callee = .builtin .len) (ha : c.args.toList = [x]) (ht : c.argTypes.toList = [t])
    (hc : compLen P t x = some op) (hp : op.isPure = true) (hv : pureOp F op = some v) : Gives P ρ a o v w := by
  have h1 := he x hx
  have ea := args_one ha
  have et : c.argTypes = #[t] := Array.toList_inj.1 ht
  unfold compLen at hc
  split at hc
  · rename_i hu
    cases hc
    simp only [pureOp] at hv
    split at hv
    · rename_i s hs
      rw [hs] at h1
      cases hv
      refine gives_builtin (v' := .int .i64 s.size) ho hb ?_ (.flat rfl)
      simp [builtin, Builtin.len_, et, ea, h1.string, run_underlying hu, goInt]
    · cases hv
  · rename_i e hu
    cases hc
    simp only [pureOp] at hv
    split at hv
    · rename_i b n cp hs
      rw [hs] at h1
      cases hv
      refine gives_builtin (v' := .int .i64 n) ho hb ?_ (.flat rfl)
      cases b with
      | none => simp [builtin, Builtin.len_, et, ea, h1.inv_snil, run_underlying hu, goInt]
      | some b =>
        obtain ⟨b', c', e', _⟩ := h1.inv_slice
        simp [builtin, Builtin.len_, et, ea, e', run_underlying hu, goInt]
    · cases hv
  · rename_i n e hu
    cases hc
    simp only [pureOp, Option.some.injEq] at hv
    subst hv
    refine gives_builtin (v' := .int .i64 n) ho hb ?_ (.flat rfl)
    simp [builtin, Builtin.len_, et, ea, run_underlying hu, goInt]
  · cases hc; simp [COp.isPure] at hp
  · cases hc

theorem gives_usd (he : EvR okx ρ F a) {c : Call} {x : Operand} (hx : okx x = true) (ho : o.op = .call c) (hb : c.callee = .builtin .unsafeSliceData) (ha : c.args.toList = [x]) (hv : pureOp F (.usd x) = some v) : Gives P ρ a o v w := by
  have h1 := he x hx
  have ea := args_one ha
  simp only [pureOp] at hv
  split at hv
  · rename_i b l n hs
    rw [hs] at h1
    split at hv
    · rename_i hn
      cases hv
      obtain ⟨b', c', e', _, h3, _, h4, _⟩ := h1.inv_slice
      obtain ⟨g, sh, hg, e2⟩ := h4 hn
      have hc0 : c' ≠ 0 := by omega
      refine gives_builtin (v' := .pointer (some b')) ho hb ?_ ?_
      · have hr := fun ty => Lib.run_unsafeSliceData_row (P := P) w c.argTypes ty b' l c' hc0
        simp [builtin, ea, e', hr]
      · rw [e2]
        exact VRel.pointer (ρ := ρ) (a := ⟨b.block, b.off, none⟩) (g := g) (s := sh) hg
    · cases hv
  · cases hv

theorem gives_cap (he : EvR okx ρ F a) {c : Call} {x : Operand} {t e : TypeId} (hx : okx x = true) (ho : o.op = .call c) (hb : c.callee = .builtin .cap) (ha : c.args.toList = [x]) (ht : c.argTypes.toList = [t])
    (hu : P.underlying t = some (.slice e)) (hv : pureOp F (.cap x) = some v) : Gives P ρ a o v w := by
  have h1 := he x hx
  have ea := args_one ha
  have et : c.argTypes = #[t] := Array.toList_inj.1 ht
  simp only [pureOp] at hv
  split at hv
  · rename_i l n hs
    rw [hs] at h1
    cases hv
    refine gives_builtin (v' := .int .i64 n) ho hb ?_ (.flat rfl)
    simp [builtin, Builtin.cap_, et, ea, h1.inv_snil, run_underlying hu, goInt]
  · rename_i b l n hs
    rw [hs] at h1
    split at hv
    · rename_i hex
      cases hv
      obtain ⟨b', c', e', _, _, h2, _⟩ := h1.inv_slice
      have := h2 hex
      subst this
      refine gives_builtin (v' := .int .i64 n) ho hb ?_ (.flat rfl)
      simp [builtin, Builtin.cap_, et, ea, e', run_underlying hu, goInt]
    · cases hv
  · cases hv

theorem okOpds {op : Op} (h : op.operands.all (okOpd P) = true) : ∀ x ∈ op.operands, okOpd P x = true := fun x hx => Array.all_eq_true_iff_forall_mem.1 h x hx

theorem pure_sim (he : EvR okx ρ F a) (hok : ∀ x ∈ o.op.operands, okx x = true) {c : COp} (hc : compOp P o = some c) (hp : c.isPure = true) (hv : pureOp F c = some v) : Gives P ρ a o v w := by
  unfold compOp at hc
  split at hc
  · rename_i hops
    clear hops
    unfold compOp1 at hc
    split at hc
    · rename_i x ho; cases hc; exact gives_mov he (hok x (by simp [ho, Op.operands])) (.inl ho) hv
    · rename_i x ho; cases hc; exact gives_mov he (hok x (by simp [ho, Op.operands])) (.inr ho) hv
    · rename_i x y z ho; cases hc; exact gives_pick he (hok x (by simp [ho, Op.operands])) (hok y (by simp [ho, Op.operands])) (hok z (by simp [ho, Op.operands])) ho hv
    · simp only [Option.map_eq_some_iff] at hc; obtain ⟨_, _, rfl⟩ := hc; split at hp <;> simp [COp.isPure] at hp
    · cases hc; simp [COp.isPure] at hp
    · rename_i t ps ho
      have hops : ∀ x ∈ ps.toList, okx x.2 = true := fun x hx => hok x.2 (by
        rw [ho]
        simp only [Op.operands, List.mem_toArray, List.mem_map]
        exact ⟨x, hx, rfl⟩)
      split at hc
      · rename_i z fs hz hu
        split at hc
        · rename_i pl hpl
          simp only [Option.map_eq_some_iff] at hc
          obtain ⟨qs, hqs, rfl⟩ := hc
          exact gives_agg_struct he hops ho hz hu hpl hqs hv
        · cases hc
      · rename_i z n e hz hu
        split at hc
        · rename_i s hs
          simp only [Option.map_eq_some_iff] at hc
          obtain ⟨qs, hqs, rfl⟩ := hc
          exact gives_agg_array he hops ho hz hu hs hqs hv
        · cases hc
      · cases hc
    · split at hc
      · split at hc
        · split at hc
          · simp only [Option.map_eq_some_iff] at hc; obtain ⟨_, _, rfl⟩ := hc; simp [COp.isPure] at hp
          · cases hc
        · cases hc
      · cases hc
    · split at hc
      · cases hc; simp [COp.isPure] at hp
      · cases hc; simp [COp.isPure] at hp
      · cases hc
    · simp only [Option.map_eq_some_iff] at hc; obtain ⟨_, _, rfl⟩ := hc; simp [COp.isPure] at hp
    · rename_i x ho; cases hc; exact gives_nilck he (hok x (by simp [ho, Op.operands])) ho hv
    · rename_i op t x y yt ho; exact gives_bin he (hok x (by simp [ho, Op.operands])) (hok y (by simp [ho, Op.operands])) ho hc hv
    · rename_i op t x ho; cases hc; exact gives_un he (hok x (by simp [ho, Op.operands])) ho hv
    · rename_i s d x ho; exact gives_conv he (hok x (by simp [ho, Op.operands])) ho hc hp hv
    · rename_i t x ho
      split at hc
      · cases hc
      · rename_i d hd hu
        cases hc
        exact gives_ifc he (hok x (by simp [ho, Op.operands])) ho hu hd hv
      · cases hc
    · rename_i f p q ho
      cases hc
      exact gives_fn he (fun x hx => hok x (by simp [ho, Op.operands, hx])) (fun x hx => hok x (by simp [ho, Op.operands, hx])) ho hv
    · cases hc; simp [COp.isPure] at hp
    · split at hc
      · split at hc
        · split at hc
          · cases hc; simp [COp.isPure] at hp
          · cases hc
        · cases hc
      · cases hc
    · rename_i t x lo hi mx ho
      have hx : okx x = true := hok x (by simp [ho, Op.operands])
      have hlo : ∀ y, lo = some y → okx y = true := fun y e => hok y (by subst e; simp [ho, Op.operands])
      have hhi : ∀ y, hi = some y → okx y = true := fun y e => hok y (by subst e; simp [ho, Op.operands])
      have hmx : ∀ y, mx = some y → okx y = true := fun y e => hok y (by subst e; simp [ho, Op.operands])
      unfold compSlice at hc
      split at hc
      · rename_i hu
        split at hc
        · cases hc
        · rename_i hm
          cases hc
          have : mx = none := by cases mx with | none => rfl | some _ => simp at hm
          subst this
          exact gives_sls he hx hlo hhi ho hu hv
      · rename_i e hu
        simp only [Option.map_eq_some_iff] at hc; obtain ⟨s, hs, rfl⟩ := hc
        exact gives_sl he hx hlo hhi hmx ho hu hs hv
      · rename_i n e hu
        simp only [Option.map_eq_some_iff] at hc; obtain ⟨s, hs, rfl⟩ := hc
        exact gives_sla he hx hlo hhi hmx ho hu hs hv
      · cases hc
    · rename_i t x i ho
      split at hc
      · rename_i f s b hf
        unfold compField at hf
        split at hf
        · rename_i fs hu
          split at hf
          · rename_i f' hf'
            split at hf
            · rename_i s' b' hs hb
              cases hf
              split at hc
              · cases hc
              · rename_i h0
                cases hc
                exact gives_fad he (hok x (by simp [ho, Op.operands])) ho hu hf' hs h0 hv
            · cases hf
          · cases hf
        · cases hf
      · cases hc
    · rename_i t x i ho
      split at hc
      · rename_i f s b hf
        unfold compField at hf
        split at hf
        · rename_i fs hu
          split at hf
          · rename_i f' hf'
            split at hf
            · rename_i s' b' hs hb
              cases hf
              refine gives_fld (b := b) he (hok x (by simp [ho, Op.operands])) ho hu hf' hs hb ?_
              cases b with
              | true => simp only [if_true, Option.some.injEq] at hc ⊢; rw [hc]; exact hv
              | false => simp only [Bool.false_eq_true, if_false, Option.some.injEq] at hc ⊢; rw [hc]; exact hv
            · cases hf
          · cases hf
        · cases hf
      · cases hc
    · rename_i t x i ho
      have hx : okx x = true := hok x (by simp [ho, Op.operands])
      have hi : okx i = true := hok i (by simp [ho, Op.operands])
      split at hc
      · rename_i e hu
        simp only [Option.map_eq_some_iff] at hc; obtain ⟨s, hs, rfl⟩ := hc
        exact gives_iad he hx hi ho hu hs hv
      · rename_i n e hu
        simp only [Option.map_eq_some_iff] at hc; obtain ⟨s, hs, rfl⟩ := hc
        exact gives_iaa he hx hi ho hu hs hv
      · cases hc
    · rename_i t x i ho
      have hx : okx x = true := hok x (by simp [ho, Op.operands])
      have hi : okx i = true := hok i (by simp [ho, Op.operands])
      split at hc
      · rename_i hu; cases hc; exact gives_ids he hx hi ho hu hv
      · rename_i n e hu
        split at hc
        · rename_i s hs hg; cases hc; exact gives_ida (b := true) he hx hi ho hu hs hg hv
        · rename_i s hs hg; cases hc; exact gives_ida (b := false) he hx hi ho hu hs hg hv
        · cases hc
      · cases hc
    · split at hc
      · split at hc
        · split at hc
          · cases hc; simp [COp.isPure] at hp
          · cases hc
        · cases hc
      · cases hc
    · split at hc
      · split at hc
        · split at hc
          · cases hc; simp [COp.isPure] at hp
          · cases hc
        · cases hc
      · cases hc
    · split at hc
      · split at hc
        · split at hc
          · cases hc; simp [COp.isPure] at hp
          · cases hc
        · cases hc
      · cases hc
    · split at hc
      · cases hc; simp [COp.isPure] at hp
      · cases hc
    · cases hc; simp [COp.isPure] at hp
    · rename_i x i ho; cases hc; exact gives_ext he (hok x (by simp [ho, Op.operands])) ho hv
    · rename_i c' ho
      have hcops : ∀ x ∈ c'.args, okx x = true := fun x hx => hok x (by simp [ho, Op.operands, Call.operands, hx])
      unfold compCall at hc
      split at hc
      · cases hc; simp [COp.isPure] at hp
      · cases hc
      · rename_i b hb
        split at hc
        · unfold compApp at hc
          split at hc
          · split at hc
            · split at hc
              · split at hc
                · cases hc
                · split at hc
                  · cases hc; simp [COp.isPure] at hp
                  · split at hc
                    · cases hc; simp [COp.isPure] at hp
                    · cases hc
                  · cases hc; simp [COp.isPure] at hp
                  · cases hc
              · cases hc
            · cases hc
          · cases hc
        · rename_i x t h1 h2
          exact gives_len he (hcops x (by rw [args_one h1]; simp)) ho hb h1 h2 hc hp hv
        · rename_i x t h1 h2
          split at hc
          · rename_i e hu
            cases hc
            exact gives_cap he (hcops x (by rw [args_one h1]; simp)) ho hb h1 h2 hu hv
          · cases hc
        · cases hc
          exact gives_mnx (mx := false) he (fun x hx => hcops x (by simpa using hx)) ho hb hv
        · cases hc
          exact gives_mnx (mx := true) he (fun x hx => hcops x (by simpa using hx)) ho hb hv
        · rename_i _ x h1
          cases hc
          exact gives_usd he (hcops x (by rw [args_one h1]; simp)) ho hb h1 hv
        · split at hc
          · split at hc
            · cases hc; simp [COp.isPure] at hp
            · cases hc
          · cases hc
        · cases hc
    · cases hc
  · cases hc

end
end Go.Proofs.YtjmohjemgohlpaaGreatDoor.Am

/- The abstract machine: operations on memory, the means. -/
namespace Go.Proofs.YtjmohjemgohlpaaGreatDoor.Am
open Go

def NxRel (ρ : Ren) (v : Value) : Next → Prop
  | .value v' => VRel ρ v v'
  | .skip => v = undef
  | _ => False

/-- what is shown of an operation on memory -/
def Does (P : Program) (base : Nat) (ρ : Ren) (H : Hp) (a : Act) (o : Oper) (v : Value) (H' : Hp) (w : World) : Prop :=
  ∃ ρ' nx w', (execOp a.eval o).run P w = .ok nx w' ∧ NxRel ρ' v nx ∧ Sim P base ρ H w ρ' H' w'

theorem Gives.does {P : Program} {base : Nat} {ρ : Ren} {H : Hp} {a : Act} {o : Oper} {v : Value} {w : World} (hH : HRel P base ρ H w) (h : Gives P ρ a o v w) : Does P base ρ H a o v H w := by
  obtain ⟨v', h1, h2⟩ := h
  exact ⟨ρ, _, w, h1, h2, Sim.refl hH⟩

section
variable {P : Program} {base : Nat} {ρ : Ren} {H : Hp} {w : World}

theorem Sim.of_heap (h : HRel P base ρ H w) {w' : World} (hw : w'.heap = w.heap) (h1 : w'.os = w.os) (h2 : w'.tape = w.tape) (h3 : w'.output = w.output) : Sim P base ρ H w ρ H w' :=
  ⟨Ren.le_refl _, h.heap hw, ⟨by rw [hw]; exact Nat.le_refl _, h1, h2, h3, fun g _ _ => by rw [hw]⟩, fun _ _ h => h, Nat.le_refl _, fun b x h k => by rw [h] at k; cases k⟩
theorem Sim.drew (h : HRel P base ρ H w) : Sim P base ρ H w ρ H w.drew := Sim.of_heap h rfl rfl rfl rfl

/-- a new row whose type is known -/
theorem Sim.trow (h : HRel P base ρ H w) {cs cs' : List Value} (hr : VsRel ρ cs cs') (cc : Array Value) (t : TypeId) (fr : Nat × Nat) {rest : List Value} (hcc : cc.toList = cs' ++ rest) (hfr : okFrozen fr cc.size) :
    Sim P base ρ H w (ρ.add H.size (w.heap.size, 0) (some cc.size)) (H.new (.trow cs t)) (w.alloc (.cells cc t fr)) := by
  have hn : ρ H.size = none := by
    cases e : ρ H.size with
    | none => rfl
    | some y => have := h.lt _ _ e; omega
  have hn2 : ρ.n w.heap.size = none := by
    cases e : ρ.n w.heap.size with
    | none => rfl
    | some y => have := h.nlt _ _ e; omega
  have hle := Ren.le_add (w.heap.size, 0) (some cc.size) hn
  refine h.alloc _ _ _ ⟨h.sz, rfl, cc, fr, (by show (w.heap.push _)[w.heap.size]? = _; simp), hfr, ?_, Ren.add_n _ _ _ _ hn2, ?_⟩
  · have e1 : cc.size = cs'.length + rest.length := by rw [← Array.length_toList, hcc, List.length_append]
    have := hr.1; omega
  · intro i v hv
    obtain ⟨v', h1, h2⟩ := hr.get hv
    refine ⟨v', ?_, h2.mono hle⟩
    have hi : i < cs'.length := (List.getElem?_eq_some_iff.1 h1).1
    rw [← Array.getElem?_toList, hcc, List.getElem?_append_left hi]
    exact h1
/-- a new row -/
theorem Sim.row (h : HRel P base ρ H w) {cs cs' : List Value} (hr : VsRel ρ cs cs') (cc : Array Value) (t : TypeId) (fr : Nat × Nat) {rest : List Value} (hcc : cc.toList = cs' ++ rest) (hfr : okFrozen fr cc.size) :
    Sim P base ρ H w (ρ.add H.size (w.heap.size, 0) (some cc.size)) (H.new (.row cs true)) (w.alloc (.cells cc t fr)) := by
  have hn : ρ H.size = none := by
    cases e : ρ H.size with
    | none => rfl
    | some y => have := h.lt _ _ e; omega
  have hn2 : ρ.n w.heap.size = none := by
    cases e : ρ.n w.heap.size with
    | none => rfl
    | some y => have := h.nlt _ _ e; omega
  have hle := Ren.le_add (w.heap.size, 0) (some cc.size) hn
  refine h.alloc _ _ _ ⟨h.sz, cc, t, fr, (by show (w.heap.push _)[w.heap.size]? = _; simp), hfr, ?_, Ren.add_n _ _ _ _ hn2, ?_⟩
  · have e1 : cc.size = cs'.length + rest.length := by rw [← Array.length_toList, hcc, List.length_append]
    have := hr.1; omega
  · intro i v hv
    obtain ⟨v', h1, h2⟩ := hr.get hv
    refine ⟨v', ?_, h2.mono hle⟩
    have hi : i < cs'.length := (List.getElem?_eq_some_iff.1 h1).1
    rw [Nat.zero_add, ← Array.getElem?_toList, hcc, List.getElem?_append_left hi]
    exact h1

theorem Sim.mk' (h : HRel P base ρ H w) {eo : Option TypeId} {cs cs' : List Value} (hr : VsRel ρ cs cs') (cc : Array Value) (t : TypeId) (heo : ∀ u, eo = some u → u = t) (fr : Nat × Nat) {rest : List Value} (hcc : cc.toList = cs' ++ rest) (hfr : okFrozen fr cc.size) :
    Sim P base ρ H w (ρ.add H.size (w.heap.size, 0) (some cc.size)) (H.new (mkRow eo cs)) (w.alloc (.cells cc t fr)) := by
  cases eo with
  | none => exact Sim.row h hr cc t fr hcc hfr
  | some u =>
    obtain rfl := heo u rfl
    exact Sim.trow h hr cc u fr hcc hfr

theorem row_at (k : Option Nat) (ρ : Ren) (H : Hp) (w : World) : VRel (ρ.add H.size (w.heap.size, 0) k) (.pointer (some ⟨H.size, 0, none⟩)) (.pointer (some ⟨w.heap.size, 0, none⟩)) := by
  have := VRel.pointer (ρ := ρ.add H.size (w.heap.size, 0) k) (a := ⟨H.size, 0, none⟩) (g := w.heap.size) (s := 0) (Ren.add_same _ _ _ _)
  simpa using this

/-- a cell that is read -/
theorem HRel.cell (h : HRel P base ρ H w) {a : Addr} {v : Value} (hc : H.cell? a = some v) {g s : Nat} (hg : ρ a.block = some (g, s)) : ∃ v', w.cell? ⟨g, s + a.off, none⟩ = some v' ∧ VRel ρ v v' := by
  have hb := h.blk _ _ _ hg
  unfold Hp.cell? at hc
  split at hc
  · rename_i c o hx
    rw [hx] at hb
    cases o with
    | true =>
      obtain ⟨_, cc, t, fr, h1, _, _, _, h4⟩ := hb
      obtain ⟨v', h5, h6⟩ := h4 _ _ hc
      exact ⟨v', by simp [World.cell?, h1, h5], h6⟩
    | false => exact hb.2 _ _ hc
  · rename_i c t hx
    rw [hx] at hb
    obtain ⟨_, cc, t, fr, h1, _, _, _, h4⟩ := hb.untype
    obtain ⟨v', h5, h6⟩ := h4 _ _ hc
    exact ⟨v', by simp [World.cell?, h1, h5], h6⟩
  · cases hc

theorem HRel.cells (h : HRel P base ρ H w) {a : Addr} {n : Nat} {cs : List Value} (hc : H.cells? a n = some cs) {g s : Nat} (hg : ρ a.block = some (g, s)) :
    ∃ cs', VsRel ρ cs cs' ∧ cs'.length = n ∧ ∀ j v, cs'[j]? = some v → w.cell? ⟨g, s + a.off + j, none⟩ = some v := by
  have hlen : cs.length = n ∧ ∀ j v, cs[j]? = some v → H.cell? ⟨a.block, a.off + j, none⟩ = some v := by
    unfold Hp.cells? at hc
    split at hc
    · rename_i c o hx
      split at hc
      · cases hc
        refine ⟨by simp; omega, fun j v hv => ?_⟩
        rw [List.getElem?_take] at hv
        split at hv
        · simp only [Hp.cell?, hx]
          simpa using hv
        · cases hv
      · cases hc
    · rename_i c o hx
      split at hc
      · cases hc
        refine ⟨by simp; omega, fun j v hv => ?_⟩
        rw [List.getElem?_take] at hv
        split at hv
        · simp only [Hp.cell?, hx]
          simpa using hv
        · cases hv
      · cases hc
    · cases hc
  have key : ∀ j v, cs[j]? = some v → ∃ v', w.cell? ⟨g, s + a.off + j, none⟩ = some v' ∧ VRel ρ v v' := by
    intro j v hv
    have := h.cell (hlen.2 j v hv) (a := ⟨a.block, a.off + j, none⟩) hg
    simpa [Nat.add_assoc] using this
  refine ⟨(List.range n).map fun j => (w.cell? ⟨g, s + a.off + j, none⟩).getD undef, ⟨by simp [hlen.1], ?_⟩, by simp, ?_⟩
  · intro j v v' h1 h2
    obtain ⟨u, h3, h4⟩ := key j v h1
    simp only [List.getElem?_map, Option.map_eq_some_iff] at h2
    obtain ⟨k, hk, rfl⟩ := h2
    have hkj : k = j := by
      rw [List.getElem?_eq_some_iff] at hk
      obtain ⟨_, hk⟩ := hk
      simpa using hk.symm
    subst hkj
    rw [h3]; exact h4
  · intro j v hv
    simp only [List.getElem?_map, Option.map_eq_some_iff] at hv
    obtain ⟨k, hk, rfl⟩ := hv
    have hkj : k = j ∧ j < n := by
      rw [List.getElem?_eq_some_iff] at hk
      obtain ⟨hk1, hk⟩ := hk
      exact ⟨by simpa using hk.symm, by simpa using hk1⟩
    obtain ⟨rfl, hj⟩ := hkj
    obtain ⟨u, h3, _⟩ := key k cs[k] (List.getElem?_eq_getElem (by rw [hlen.1]; exact hj))
    rw [h3]; rfl

theorem run_cells (w : World) {g off : Nat} {cs : List Value} (h : ∀ j v, cs[j]? = some v → w.cell? ⟨g, off + j, none⟩ = some v) : (loadCells ⟨g, off, none⟩ cs.length).run P w = .ok cs.toArray w :=
  run_loadCells_list w _ cs fun j v hv => by rw [Addr.add_lit]; exact h j v hv

/-! ### Cells that are written -/
theorem heap_setCell_at (w : World) {g o : Nat} {cc : Array Value} {t : TypeId} {fr : Nat × Nat} {v : Value} (h : w.heap[g]? = some (.cells cc t fr)) : (w.setCell ⟨g, o, none⟩ v).heap[g]? = some (.cells (cc.setIfInBounds o v) t fr) := by
  simp [World.setCell, Array.getElem?_modify, h]

theorem heap_setCells_at {g : Nat} {t : TypeId} {fr : Nat × Nat} : ∀ (vs : List Value) (o : Nat) (w : World) (cc : Array Value), w.heap[g]? = some (.cells cc t fr) → o + vs.length ≤ cc.size →
    (w.setCells g o vs).heap[g]? = some (.cells ⟨setAll cc.toList o vs⟩ t fr) := by
  intro vs
  induction vs with
  | nil => intro o w cc h hl; rw [setAll_spec _ _ _ (by simpa using hl)]; simpa [World.setCells] using h
  | cons v vs ih =>
    intro o w cc h hl
    rw [World.setCells, ih (o + 1) _ (cc.setIfInBounds o v) (heap_setCell_at w h) (by simp at hl ⊢; omega)]
    congr 2
    simp only [List.length_cons] at hl
    rw [setAll_spec _ _ _ (by simp; omega), setAll_spec _ _ _ (by simp; omega)]
    simp only [Array.toList_setIfInBounds]
    have hlt : o < cc.toList.length := by simp; omega
    rw [List.take_set, List.drop_set_of_lt (by omega), List.take_succ_eq_append_getElem hlt]
    have hm : min o cc.size = o := Nat.min_eq_left (by simp at hlt; omega)
    rw [List.set_append_right _ _ (by simp [hm])]
    simp [hm]
    congr 1
    omega

theorem tape_setCells (g : Nat) : ∀ (vs : List Value) (o : Nat) (w : World), (w.setCells g o vs).tape = w.tape
  | [], _, _ => rfl
  | _ :: r, _, w => by rw [World.setCells, tape_setCells g r]; rfl

theorem size_setCells (g : Nat) : ∀ (vs : List Value) (o : Nat) (w : World), (w.setCells g o vs).heap.size = w.heap.size
  | [], _, _ => rfl
  | v :: r, o, w => by rw [World.setCells, size_setCells g r]; simp [World.setCell]

theorem World.heap_setCells_other' (g : Nat) : ∀ (vs : List Value) (o : Nat) (w : World) (k : Nat), k ≠ g → (w.setCells g o vs).heap[k]? = w.heap[k]?
  | [], _, _, _, _ => rfl
  | v :: r, o, w, k, h => by rw [World.setCells, World.heap_setCells_other' g r _ _ k h, heap_setCell_other _ _ _ _ h]

/-- a row of the call's own is written in the model, and is known to be 'c' then -/
theorem Sim.setRow (h : HRel P base ρ H w) {b g s : Nat} {c0 : List Value} (hb : ρ b = some (g, s)) (hx : H.get b = .row c0 true) {o : Nat} {vs : List Value} {c : List Value}
    (hc : ∀ cc t fr, w.heap[g]? = some (.cells cc t fr) → (∀ (i : Nat) v, c0[i]? = some v → ∃ v', cc[s + i]? = some v' ∧ VRel ρ v v') → s + c0.length ≤ cc.size → ρ.n g = some cc.size →
      o + vs.length ≤ cc.size ∧ s + c.length ≤ cc.size ∧ ∀ (i : Nat) v, c[i]? = some v → ∃ v', (setAll cc.toList o vs)[s + i]? = some v' ∧ VRel ρ v v') :
    Sim P base ρ H w ρ (H.upd b (.row c true)) (w.setCells g o vs) := by
  have hb0 := h.blk _ _ _ hb
  rw [hx] at hb0
  obtain ⟨hbase, cc, t, fr, h1, h2, h3, h4, h5⟩ := hb0
  obtain ⟨k1, k2, k3⟩ := hc cc t fr h1 h5 h3 h4
  have hsz : (setAll cc.toList o vs).length = cc.size := by rw [setAll_length _ _ _ (by simpa using k1)]; simp
  refine h.write hb (by rw [hx]; rfl) (fun k hk => World.heap_setCells_other' g vs o w k hk) (size_setCells g vs o w) (World.os_setCells w g o vs) (tape_setCells g vs o w) (World.output_setCells w g o vs) _ ?_
  refine ⟨hbase, _, t, fr, heap_setCells_at vs o w cc h1 k1, ?_, ?_, ?_, ?_⟩
  · rw [show (Array.mk (setAll cc.toList o vs)).size = cc.size from hsz]; exact h2
  · rw [show (Array.mk (setAll cc.toList o vs)).size = cc.size from hsz]; exact k2
  · rw [show (Array.mk (setAll cc.toList o vs)).size = cc.size from hsz]; exact h4
  · intro i v hv
    obtain ⟨v', h6, h7⟩ := k3 i v hv
    exact ⟨v', by simpa using h6, h7⟩
/-- .. whose type is known -/
theorem Sim.setTrow (h : HRel P base ρ H w) {b g s : Nat} {c0 : List Value} {ty : TypeId} (hb : ρ b = some (g, s)) (hx : H.get b = .trow c0 ty) {o : Nat} {vs : List Value} {c : List Value}
    (hc : ∀ cc t fr, w.heap[g]? = some (.cells cc t fr) → (∀ (i : Nat) v, c0[i]? = some v → ∃ v', cc[s + i]? = some v' ∧ VRel ρ v v') → s + c0.length ≤ cc.size → ρ.n g = some cc.size →
      o + vs.length ≤ cc.size ∧ s + c.length ≤ cc.size ∧ ∀ (i : Nat) v, c[i]? = some v → ∃ v', (setAll cc.toList o vs)[s + i]? = some v' ∧ VRel ρ v v') :
    Sim P base ρ H w ρ (H.upd b (.trow c ty)) (w.setCells g o vs) := by
  have hb0 := h.blk _ _ _ hb
  rw [hx] at hb0
  obtain ⟨hbase, hs0, cc, fr, h1, h2, h3, h4, h5⟩ := hb0
  obtain ⟨k1, k2, k3⟩ := hc cc ty fr h1 (by rw [hs0]; simpa using h5) (by omega) h4
  have hsz : (setAll cc.toList o vs).length = cc.size := by rw [setAll_length _ _ _ (by simpa using k1)]; simp
  refine h.write hb (by rw [hx]; rfl) (fun k hk => World.heap_setCells_other' g vs o w k hk) (size_setCells g vs o w) (World.os_setCells w g o vs) (tape_setCells g vs o w) (World.output_setCells w g o vs) _ ?_
  refine ⟨hbase, hs0, _, fr, heap_setCells_at vs o w cc h1 k1, ?_, ?_, ?_, ?_⟩
  · rw [show (Array.mk (setAll cc.toList o vs)).size = cc.size from hsz]; exact h2
  · rw [show (Array.mk (setAll cc.toList o vs)).size = cc.size from hsz]; omega
  · rw [show (Array.mk (setAll cc.toList o vs)).size = cc.size from hsz]; exact h4
  · intro i v hv
    obtain ⟨v', h6, h7⟩ := k3 i v hv
    rw [hs0] at h6
    exact ⟨v', by simpa using h6, h7⟩

end
end Go.Proofs.YtjmohjemgohlpaaGreatDoor.Am

/- The abstract machine: operations on memory, one for one. -/
namespace Go.Proofs.YtjmohjemgohlpaaGreatDoor.Am
open Go

section
variable {P : Program} {okx : Operand → Bool} {base : Nat} {ρ : Ren} {F : Fr} {a : Act} {o : Oper} {v : Value} {H H' : Hp} {w : World}

theorem does_newz (hH : HRel P base ρ H w) {t : TypeId} {z : Value} (ho : o.op = .alloc t) (hz : tyZero P t = some z) (hv : memOp F H (.newz z.cells.toList) = some (v, H')) : Does P base ρ H a o v H' w := by
  simp only [memOp, newRow, Option.some.injEq, Prod.mk.injEq] at hv
  obtain ⟨rfl, rfl⟩ := hv
  obtain ⟨zf, hzt, _⟩ := tyZero_spec hz
  have zr := run_tyZero w hz
  refine ⟨_, .value (.pointer (some ⟨w.heap.size, 0, none⟩)), _, ?_, row_at _ ρ H w, Sim.row hH (VsRel.of_flat (flat_cells zf hzt)) z.cells t (0, 0) (rest := []) (by simp) (okFrozen_zero _)⟩
  simp [execOp, ho, Instr.alloc, zr, newVar, Go.newRow]

theorem does_newt (hH : HRel P base ρ H w) {t : TypeId} {z : Value} (ho : o.op = .alloc t) (hz : tyZero P t = some z) (hv : memOp F H (.newt t z.cells.toList) = some (v, H')) : Does P base ρ H a o v H' w := by
  simp only [memOp, Option.some.injEq, Prod.mk.injEq] at hv
  obtain ⟨rfl, rfl⟩ := hv
  obtain ⟨zf, hzt, _⟩ := tyZero_spec hz
  have zr := run_tyZero w hz
  refine ⟨_, .value (.pointer (some ⟨w.heap.size, 0, none⟩)), _, ?_, row_at _ ρ H w, Sim.trow hH (VsRel.of_flat (flat_cells zf hzt)) z.cells t (0, 0) (rest := []) (by simp) (okFrozen_zero _)⟩
  simp [execOp, ho, Instr.alloc, zr, newVar, Go.newRow]

theorem does_tou (hH : HRel P base ρ H w) (he : EvR okx ρ F a) {src dst t : TypeId} {x : Operand} {j : TypeInfo} (hx : okx x = true) (ho : o.op = .convert src dst x) (hs : P.underlying src = some (.pointer t)) (hd : P.underlying dst = some .unsafePointer) (ht : P.info? t = some j) (hj : j.size ≠ 0) (hv : memOp F H (.tou x) = some (v, H')) : Does P base ρ H a o v H' w := by
  have h1 := he x hx
  simp only [memOp] at hv
  split at hv
  · rename_i b hb
    rw [hb] at h1
    obtain ⟨g, s, hg, e1⟩ := h1.inv_pointer
    split at hv
    · rename_i c ty hbx
      split at hv
      · rename_i hoff
        cases hv
        have hbk := hH.blk _ _ _ hg
        rw [hbx] at hbk
        obtain ⟨_, rfl, cc, fr, k1, k2, k3, k4, k5⟩ := hbk
        have hr := Lib.run_to_unsafe (P := P) w (src := src) (dst := dst) (a := ⟨g, 0 + b.off, none⟩) (e := ty) (cells := cc.size) hs hd ht hj (by simp [World.shape?, k1]) (by simp; omega)
        refine ⟨ρ, .value (.pointer (some ⟨g, 0 + b.off, none⟩)), w, by simp only [execOp, ho, e1, Sem.run_bind, hr, Result.andThen_ok]; rfl, ?_, Sim.refl hH⟩
        exact VRel.pointer (ρ := ρ) (a := ⟨b.block, b.off, none⟩) (g := g) (s := 0) hg
      · cases hv
    · cases hv
  · cases hv

theorem liesAt_self {e : TypeId} (hc : P.cellsOf e ≠ 0) (count n : Nat) (hn : n ≤ count) : liesAt P P.depth e count 0 e n = true := by
  have hd : P.depth = (2 * (P.types.size + Made.depth) + 1) + 1 := rfl
  rw [hd]
  simp only [liesAt, Bool.or_eq_true]
  left
  rw [hd]
  simp [rowAt, hc, hn, sameLayout]

theorem does_fru (hH : HRel P base ρ H w) (he : EvR okx ρ F a) {src dst u : TypeId} {x : Operand} {j : TypeInfo} (hx : okx x = true) (ho : o.op = .convert src dst x) (hs : P.underlying src = some .unsafePointer) (hd : P.underlying dst = some (.pointer u)) (hu : P.info? u = some j) (hj : j.size ≠ 0) (hv : memOp F H (.fru u j.size x) = some (v, H')) : Does P base ρ H a o v H' w := by
  have h1 := he x hx
  simp only [memOp] at hv
  split at hv
  · rename_i b hb
    rw [hb] at h1
    obtain ⟨g, s, hg, e1⟩ := h1.inv_pointer
    split at hv
    · rename_i c ty hbx
      split at hv
      · rename_i hc
        obtain ⟨rfl, hoff, hlen⟩ := hc
        cases hv
        have hbk := hH.blk _ _ _ hg
        rw [hbx] at hbk
        obtain ⟨_, rfl, cc, fr, k1, k2, k3, k4, k5⟩ := hbk
        have hco : P.cellsOf ty = j.size := by simp [Program.cellsOf, hu]
        have h1le : 1 ≤ cc.size / P.cellsOf ty := by
          rw [hco]
          exact (Nat.le_div_iff_mul_le (by omega)).2 (by omega)
        have hr := Lib.run_from_unsafe (P := P) w (src := src) (dst := dst) (a := ⟨g, 0 + b.off, none⟩) (e := ty) (cells := cc.size) hs hd hu (by simp [World.shape?, k1]) (by rw [hoff]; exact liesAt_self (by rw [hco]; exact hj) _ _ h1le)
        refine ⟨ρ, .value (.pointer (some ⟨g, 0 + b.off, none⟩)), w, by simp only [execOp, ho, e1, Sem.run_bind, hr, Result.andThen_ok]; rfl, ?_, Sim.refl hH⟩
        rw [hoff]
        exact VRel.pointer (ρ := ρ) (a := ⟨b.block, 0, none⟩) (g := g) (s := 0) hg
      · cases hv
    · cases hv
  · cases hv

theorem does_box (hH : HRel P base ρ H w) (he : EvR okx ρ F a) {t : TypeId} {x : Operand} (hx : okx x = true) (ho : o.op = .box t x) (hv : memOp F H (.box x) = some (v, H')) : Does P base ρ H a o v H' w := by
  simp only [memOp, newRow, Option.some.injEq, Prod.mk.injEq] at hv
  obtain ⟨rfl, rfl⟩ := hv
  refine ⟨_, .value (.pointer (some ⟨w.heap.size, 0, none⟩)), _, ?_, row_at _ ρ H w, Sim.row hH (he x hx).cells (a.eval x).cells t (0, 0) (rest := []) (by simp) (okFrozen_zero _)⟩
  simp [execOp, ho, Instr.box, newVar, Go.newRow]

theorem zeroCells_length (z : List Value) : ∀ n, (zeroCells z n).length = n * z.length
  | 0 => by simp [zeroCells]
  | n + 1 => by simp [zeroCells, zeroCells_length z n, Nat.add_mul]; omega
theorem zeroCells_get (z : List Value) : ∀ (n i : Nat), i < n * z.length → (zeroCells z n)[i]? = z[i % z.length]?
  | 0, i, h => by simp at h
  | n + 1, i, h => by
    rw [zeroCells]
    rcases Nat.lt_or_ge i z.length with h1 | h1
    · rw [List.getElem?_append_left h1, Nat.mod_eq_of_lt h1]
    · rw [List.getElem?_append_right h1, zeroCells_get z n _ (by rw [Nat.add_mul] at h; omega), Nat.mod_eq_sub_mod h1]
theorem made_eq (z : Array Value) (n : Nat) : (madeCells z (n * z.size)).toList = zeroCells z.toList n := by
  apply List.ext_getElem?
  intro i
  rcases Nat.lt_or_ge i (n * z.size) with h | h
  · rw [zeroCells_get _ _ _ (by simpa using h)]
    have hp : 0 < z.size := by
      rcases Nat.eq_zero_or_pos z.size with e | e
      · rw [e] at h; simp at h
      · exact e
    have hm : i % z.size < z.size := Nat.mod_lt _ hp
    simp [madeCells, h, hm]
  · rw [List.getElem?_eq_none (by simpa [madeCells] using h), List.getElem?_eq_none (by rw [zeroCells_length]; simpa using h)]
theorem builtinZero_eq (z : Array Value) (n : Nat) : (Builtin.zeroCells z n).toList = zeroCells z.toList n := made_eq z n

theorem flat_zeroCells {z : List Value} (h : ∀ u ∈ z, flat0 u = true) : ∀ n, ∀ u ∈ zeroCells z n, flat0 u = true
  | 0, u, hu => by simp [zeroCells] at hu
  | n + 1, u, hu => by
    rw [zeroCells, List.mem_append] at hu
    rcases hu with hu | hu
    · exact h u hu
    · exact flat_zeroCells h n u hu

theorem exact_row (k : Option Nat) (ρ : Ren) (H : Hp) (w : World) {l c : Nat} (h : l ≤ c) : VRel (ρ.add H.size (w.heap.size, 0) k) (.slice (some (exact ⟨H.size, 0, none⟩)) l c) (.slice (some ⟨w.heap.size, 0, none⟩) l c) := by
  refine .slice h (Nat.le_refl _) (fun _ => rfl) (fun _ => ⟨w.heap.size, 0, Ren.add_same _ _ _ _, rfl⟩) (fun k hk => by simp [exact, isRoomy] at hk)

theorem does_lits (hH : HRel P base ρ H w) (he : EvR okx ρ F a) {t e : TypeId} {n s : Nat} {ps : Array (Nat × Operand)} {qs : List (Nat × Nat × Operand)} {z : Value} (hops : ∀ x ∈ ps.toList, okx x.2 = true) (ho : o.op = .buildSlice t n ps)
    (hu : P.underlying t = some (.slice e)) (hs : tySize P e = some s) (hz : tyZero P e = some z) (hn : n * s ≤ 2 ^ 24) (h0 : 0 < s) (hzs : z.cells.size = s) (hq : partsOf (fun i => some (i * s, s)) ps.toList = some qs)
    (hv : memOp F H (.lits (zeroCells z.cells.toList n) n qs) = some (v, H')) : Does P base ρ H a o v H' w := by
  simp only [memOp, Option.map_eq_some_iff] at hv
  obtain ⟨cs, hcs, hv⟩ := hv
  simp only [Prod.mk.injEq] at hv
  obtain ⟨rfl, rfl⟩ := hv
  obtain ⟨zf, hzt, _⟩ := tyZero_spec hz
  have zr := run_tyZero w hz
  obtain ⟨r', h1, h2⟩ := fill_run he hops hq (flat_zeroCells (flat_cells zf hzt) n) hcs
  have hz1 : ¬ (n * s > 2 ^ 24) := by omega
  have hcells : (if n * s = 0 then (#[] : Array Value) else z.cells) = z.cells ∨ n = 0 := by
    by_cases e0 : n = 0
    · exact .inr e0
    · left; rw [if_neg]; intro e1; rcases Nat.mul_eq_zero.1 e1 with h | h <;> omega
  have hmade : (Array.range (n * s)).map ((if n * s = 0 then (#[] : Array Value) else z.cells)[· % (if n * s = 0 then (#[] : Array Value) else z.cells).size]!) = ⟨zeroCells z.cells.toList n⟩ := by
    rcases hcells with h | h
    · rw [h]
      apply Array.toList_inj.1
      rw [← hzs]
      exact made_eq z.cells n
    · subst h; simp [zeroCells, Array.range_zero']
  have h1' : Instr.fill (fun i => some (i * s, s)) ⟨zeroCells z.cells.toList n⟩ (ps.map (fun x => match x with | (i, x) => (i, a.eval x))).toList = some ⟨r'⟩ := by
    have : Instr.fill (fun i => some (i * s, s)) ⟨zeroCells z.cells.toList n⟩ (ps.map (fun x => (x.1, a.eval x.2))).toList = some ⟨r'⟩ := by simpa using h1
    exact this
  refine ⟨_, .value (.slice (some ⟨w.heap.size, 0, none⟩) n n), _, ?_, exact_row _ ρ H w (Nat.le_refl _), Sim.row hH h2 ⟨r'⟩ e (0, 0) (rest := []) (by simp) (okFrozen_zero _)⟩
  simp only [execOp, ho, Instr.buildSlice]
  simp only [Sem.run_bind, run_underlying hu, Result.andThen_ok, run_tySize w hs, hz1, if_false, Sem.run_pure]
  by_cases hk : n * s = 0
  · simp only [hk, if_true, Sem.run_bind, Sem.run_pure, Result.andThen_ok] at hmade ⊢
    rw [hmade, h1']
    simp [Go.newRow]
  · simp only [hk, if_false, Sem.run_bind, Sem.run_pure, Result.andThen_ok, zr] at hmade ⊢
    rw [hmade, h1']
    simp [Go.newRow]

theorem does_ld1 (hH : HRel P base ρ H w) (he : EvR okx ρ F a) {t : TypeId} {x : Operand} (hx : okx x = true) (ho : o.op = .load t x) (ht : tyAgg P t = some false) (hv : memOp F H (.ld1 x) = some (v, H')) : Does P base ρ H a o v H' w := by
  have h1 := he x hx
  simp only [memOp] at hv
  split at hv
  · rename_i b hb
    rw [hb] at h1
    obtain ⟨g, s, hg, e1⟩ := h1.inv_pointer
    simp only [Option.map_eq_some_iff] at hv
    obtain ⟨u, hu, hv⟩ := hv
    simp only [Prod.mk.injEq] at hv
    obtain ⟨rfl, rfl⟩ := hv
    obtain ⟨v', h2, h3⟩ := hH.cell hu hg
    refine ⟨ρ, .value v', w, ?_, h3, Sim.refl hH⟩
    simp [execOp, ho, Instr.loadAt, e1, Instr.sureAddr, loadVar, run_tyAgg w ht, h2]
  · cases hv

theorem does_ld (hH : HRel P base ρ H w) (he : EvR okx ρ F a) {t : TypeId} {x : Operand} {n : Nat} (hx : okx x = true) (ho : o.op = .load t x) (ht : tyAgg P t = some true) (hs : tySize P t = some n) (hv : memOp F H (.ld n x) = some (v, H')) : Does P base ρ H a o v H' w := by
  have h1 := he x hx
  simp only [memOp] at hv
  split at hv
  · rename_i b hb
    rw [hb] at h1
    obtain ⟨g, s, hg, e1⟩ := h1.inv_pointer
    simp only [Option.map_eq_some_iff] at hv
    obtain ⟨cs, hu, hv⟩ := hv
    simp only [Prod.mk.injEq] at hv
    obtain ⟨rfl, rfl⟩ := hv
    obtain ⟨cs', h2, h3, h4⟩ := hH.cells hu hg
    have hl := run_cells (P := P) w h4
    rw [h3] at hl
    refine ⟨ρ, .value (.agg ⟨cs'⟩), w, ?_, VsRel.agg h2, Sim.refl hH⟩
    simp [execOp, ho, Instr.loadAt, e1, Instr.sureAddr, loadVar, run_tyAgg w ht, run_tySize w hs, hl]
  · cases hv

theorem oneCells {ρ : Ren} {l l' : List Value} (h : VsRel ρ l l') (k : l.all oneCell = true) : ∀ v ∈ l', v.oneCell' = true := by
  intro v hv
  obtain ⟨i, hi, e⟩ := List.getElem_of_mem hv
  have hi2 : i < l.length := by rw [h.1]; exact hi
  exact (h.2 i l[i] v (List.getElem?_eq_getElem hi2) (by rw [List.getElem?_eq_getElem hi, e])).oneCell (List.all_eq_true.1 k _ (List.getElem_mem hi2))

/-- what a write into a row makes of it -/
theorem setAll_rel {ρ : Ren} {c0 vs vs' : List Value} {cc : Array Value} {s off : Nat} (hv : VsRel ρ vs vs') (h : ∀ (i : Nat) v, c0[i]? = some v → ∃ v', cc[s + i]? = some v' ∧ VRel ρ v v') (hl : off + vs.length ≤ c0.length) (hs : s + c0.length ≤ cc.size) :
    ∀ (i : Nat) v, (setAll c0 off vs)[i]? = some v → ∃ v', (setAll cc.toList (s + off) vs')[s + i]? = some v' ∧ VRel ρ v v' := by
  intro i v hi
  rw [setAll_spec _ _ _ hl] at hi
  rw [setAll_spec _ _ _ (by rw [← hv.1]; simp; omega)]
  have e1 : (c0.take off).length = off := by simp; omega
  have e2 : (cc.toList.take (s + off)).length = s + off := by simp; omega
  rcases Nat.lt_or_ge i off with k1 | k1
  · rw [List.append_assoc, List.getElem?_append_left (by rw [e1]; exact k1), List.getElem?_take_of_lt k1] at hi
    rw [List.append_assoc, List.getElem?_append_left (by rw [e2]; omega), List.getElem?_take_of_lt (by omega)]
    obtain ⟨v', h1, h2⟩ := h i v hi
    exact ⟨v', by simpa using h1, h2⟩
  · rcases Nat.lt_or_ge i (off + vs.length) with k2 | k2
    · rw [List.append_assoc, List.getElem?_append_right (by rw [e1]; exact k1), e1, List.getElem?_append_left (by omega)] at hi
      rw [List.append_assoc, List.getElem?_append_right (by rw [e2]; omega), e2, show s + i - (s + off) = i - off from by omega, List.getElem?_append_left (by rw [← hv.1]; omega)]
      exact hv.get hi
    · rw [List.getElem?_append_right (by simp [e1]; omega)] at hi
      rw [List.getElem?_append_right (by simp only [List.length_append, e2]; rw [← hv.1]; omega)]
      simp only [List.length_append, e1, e2, List.getElem?_drop] at hi ⊢
      rw [show off + vs.length + (i - (off + vs.length)) = i from by omega] at hi
      rw [← hv.1, show s + off + vs.length + (s + i - (s + off + vs.length)) = s + i from by omega]
      obtain ⟨v', h1, h2⟩ := h i v hi
      exact ⟨v', by simpa using h1, h2⟩

/-- cells are written -/
theorem store_sim (hH : HRel P base ρ H w) {b : Addr} {g s : Nat} (hg : ρ b.block = some (g, s)) {vs vs' : List Value} (hr : VsRel ρ vs vs') (hv : H.setCells b vs = some H') :
    (storeCells ⟨g, s + b.off, none⟩ vs').run P w = .ok () (w.setCells g (s + b.off) vs') ∧ Sim P base ρ H w ρ H' (w.setCells g (s + b.off) vs') := by
  unfold Hp.setCells at hv
  split at hv
  · rename_i c hx
    split at hv
    · rename_i hc
      cases hv
      have hb := hH.blk _ _ _ hg
      rw [hx] at hb
      obtain ⟨hbase, cc, t, fr, h1, h2, h3, h4, h5⟩ := hb
      have hsz : ∀ j, j < vs'.length → s + b.off + j < cc.size := fun j hj => by have := hr.1; omega
      refine ⟨?_, Sim.setRow hH hg hx fun cc' t' fr' k1 k2 k3 k4 => ?_⟩
      · have := run_storeCells_cells (P := P) g (s + b.off) vs' 0 w (fun j hj => by simp [World.cell?, h1, hsz j hj]) (fun j hj => by
            have := h2 (s + b.off + j) (hsz j hj)
            simp only [World.frozen?, h1, Nat.add_zero]
            simp only [Bool.and_eq_false_iff, decide_eq_false_iff_not]
            omega) (oneCells hr hc.2)
        simpa using this
      · refine ⟨by rw [← hr.1]; omega, by rw [setAll_length _ _ _ hc.1]; exact k3, setAll_rel hr k2 hc.1 k3⟩
    · cases hv
  · rename_i c ty hx
    split at hv
    · rename_i hc
      cases hv
      have hb := hH.blk _ _ _ hg
      rw [hx] at hb
      obtain ⟨hbase, cc, t, fr, h1, h2, h3, h4, h5⟩ := hb.untype
      have hsz : ∀ j, j < vs'.length → s + b.off + j < cc.size := fun j hj => by have := hr.1; omega
      refine ⟨?_, Sim.setTrow hH hg hx fun cc' t' fr' k1 k2 k3 k4 => ?_⟩
      · have := run_storeCells_cells (P := P) g (s + b.off) vs' 0 w (fun j hj => by simp [World.cell?, h1, hsz j hj]) (fun j hj => by
            have := h2 (s + b.off + j) (hsz j hj)
            simp only [World.frozen?, h1, Nat.add_zero]
            simp only [Bool.and_eq_false_iff, decide_eq_false_iff_not]
            omega) (oneCells hr hc.2)
        simpa using this
      · refine ⟨by rw [← hr.1]; omega, by rw [setAll_length _ _ _ hc.1]; exact k3, setAll_rel hr k2 hc.1 k3⟩
    · cases hv
  · cases hv

theorem does_st (hH : HRel P base ρ H w) (he : EvR okx ρ F a) {t : TypeId} {x y : Operand} {n : Nat} (hx : okx x = true) (hy : okx y = true) (ho : o.op = .store t x y) (hs : tySize P t = some n) (hv : memOp F H (.st n x y) = some (v, H')) : Does P base ρ H a o v H' w := by
  have h1 := he x hx
  have h2 := (he y hy).cells
  simp only [memOp] at hv
  split at hv
  · rename_i b hb
    rw [hb] at h1
    obtain ⟨g, s, hg, e1⟩ := h1.inv_pointer
    split at hv
    · rename_i hn
      simp only [Option.map_eq_some_iff] at hv
      obtain ⟨H1, hu, hv⟩ := hv
      simp only [Prod.mk.injEq] at hv
      obtain ⟨rfl, rfl⟩ := hv
      obtain ⟨h3, h4⟩ := store_sim hH hg h2 hu
      refine ⟨ρ, .skip, _, ?_, rfl, h4⟩
      have hsz : (a.eval y).cells.size = n := by rw [← hn, h2.1]; simp
      simp [execOp, ho, Instr.storeAt, e1, Instr.sureAddr, storeVar, run_tySize w hs, hsz, h3]
    · cases hv
  · cases hv

end
end Go.Proofs.YtjmohjemgohlpaaGreatDoor.Am

/- The abstract machine: operations on memory, one for one (strings, maps, slices that are made, walks of a string). -/
namespace Go.Proofs.YtjmohjemgohlpaaGreatDoor.Am
open Go

section
variable {P : Program} {okx : Operand → Bool} {base : Nat} {ρ : Ren} {F : Fr} {a : Act} {o : Oper} {v : Value} {H H' : Hp} {w : World}

/-- a new row behind a draw, whose capacity is known from below -/
theorem roomy_row (hH : HRel P base ρ H w) {eo : Option TypeId} {cs cs' : List Value} (hr : VsRel ρ cs cs') {cc : Array Value} (t : TypeId) (heo : ∀ u, eo = some u → u = t) (fr : Nat × Nat) {rest : List Value} (hcc : cc.toList = cs' ++ rest) (hfr : okFrozen fr cc.size)
    {w' : World} (hw : w' = w.drew.alloc (.cells cc t fr)) {n cap size : Nat} (hn : n ≤ cap) (hcap : cap * size ≤ cc.size) :
    ∃ ρ', VRel ρ' (.slice (some (roomy ⟨H.size, 0, none⟩ size)) n n) (.slice (some ⟨w.heap.size, 0, none⟩) n cap) ∧ Sim P base ρ H w ρ' (H.new (mkRow eo cs)) w' := by
  subst hw
  have hn2 : ρ.n w.heap.size = none := by
    cases e : ρ.n w.heap.size with
    | none => rfl
    | some y => have := hH.nlt _ _ e; omega
  refine ⟨_, ?_, (Sim.drew hH).trans (Sim.mk' (hH.heap (w' := w.drew) rfl) hr cc t heo fr hcc hfr)⟩
  refine .slice (Nat.le_refl _) hn (fun h => by simp [roomy, isExact] at h) (fun _ => ⟨w.heap.size, 0, Ren.add_same _ _ _ _, rfl⟩) (fun k hk _ => ⟨cc.size, Ren.add_n _ _ (w.heap.size, 0) _ hn2, ?_⟩)
  have : k = size := by
    have h := isRoomy_iff.1 hk
    simp only [roomy, Option.some.injEq, Nat.add_right_cancel_iff] at h
    exact h.symm
  subst this
  simpa using hcap

theorem does_cvb (hH : HRel P base ρ H w) (he : EvR okx ρ F a) {s d e : TypeId} {x : Operand} (hx : okx x = true) (ho : o.op = .convert s d x) (hs : P.underlying s = some .string) (hd : P.underlying d = some (.slice e)) (hu : P.underlying e = some (.int .u8))
    (hv : memOp F H (.cvb x) = some (v, H')) : Does P base ρ H a o v H' w := by
  have h1 := he x hx
  simp only [memOp] at hv
  split at hv
  · rename_i str hb
    rw [hb] at h1
    simp only [Option.some.injEq, Prod.mk.injEq] at hv
    obtain ⟨rfl, rfl⟩ := hv
    have hrun := run_bytes_of_string (P := P) w s d e str hs hd hu
    have hg := grownCap_ge w str.size 0 e
    have hcc : (bytesRow str (grownCap w str.size 0 e)).toList = (str.data.toList.map fun b => Value.int .u8 b.toNat) ++ List.replicate (grownCap w str.size 0 e - str.size) (.int .u8 0) := by
      simp [bytesRow]
    have hsz : (bytesRow str (grownCap w str.size 0 e)).size = grownCap w str.size 0 e := by
      rw [← Array.length_toList, hcc]
      have : str.data.toList.length = str.size := by simp
      simp only [List.length_append, List.length_map, this, List.length_replicate]
      omega
    obtain ⟨ρ', h2, h3⟩ := roomy_row (eo := none) hH (VsRel.of_flat (l := str.data.toList.map fun b => Value.int .u8 b.toNat) (fun u hu => by
      simp only [List.mem_map] at hu
      obtain ⟨b, _, rfl⟩ := hu
      rfl)) e (fun _ h => by cases h) ((bytesRow str (grownCap w str.size 0 e)).size, (bytesRow str (grownCap w str.size 0 e)).size + 1) hcc (fun i hi h => by omega) rfl (n := str.size) (cap := grownCap w str.size 0 e) (size := 1) hg (by omega)
    refine ⟨ρ', .value (.slice (some ⟨w.heap.size, 0, none⟩) str.size (grownCap w str.size 0 e)), _, ?_, h2, h3⟩
    simp [execOp, ho, h1.string, hrun]
  · cases hv

theorem bytesOfRow_spec {ρ : Ren} : ∀ {cs cs' : List Value} {l : List UInt8}, VsRel ρ cs cs' → bytesOfRow cs = some l → ∃ ns : List Int, cs' = ns.map (Value.int .u8) ∧ l = ns.map fun n => UInt8.ofNat n.toNat := by
  intro cs
  induction cs with
  | nil =>
    intro cs' l h hb
    have : cs' = [] := by have := h.1; simpa using this.symm
    subst this
    simp only [bytesOfRow, Option.some.injEq] at hb
    subst hb
    exact ⟨[], rfl, rfl⟩
  | cons c cs ih =>
    intro cs' l h hb
    obtain ⟨y, ys, rfl, hy, hys⟩ := h.inv_cons
    unfold bytesOfRow at hb
    split at hb
    · rename_i e; cases e
    · rename_i n r e
      cases e
      simp only [Option.map_eq_some_iff] at hb
      obtain ⟨l', hl', rfl⟩ := hb
      obtain ⟨ns, rfl, rfl⟩ := ih hys hl'
      exact ⟨n :: ns, by rw [hy.int]; rfl, rfl⟩
    · cases hb

theorem foldl_push (ns : List Int) : ∀ (r : ByteArray), ns.foldl (fun r n => r.push (UInt8.ofNat n.toNat)) r = ⟨r.data ++ (ns.map fun n => UInt8.ofNat n.toNat).toArray⟩ := by
  induction ns with
  | nil => intro r; simp
  | cons n ns ih =>
    intro r
    simp only [List.foldl_cons]
    rw [ih]
    simp [ByteArray.push]

theorem does_cvt (hH : HRel P base ρ H w) (he : EvR okx ρ F a) {s d e : TypeId} {x : Operand} (hx : okx x = true) (ho : o.op = .convert s d x) (hs : P.underlying s = some (.slice e)) (hd : P.underlying d = some .string) (hu : P.underlying e = some (.int .u8))
    (hv : memOp F H (.cvt x) = some (v, H')) : Does P base ρ H a o v H' w := by
  have h1 := he x hx
  simp only [memOp] at hv
  split at hv
  · rename_i l c hb
    rw [hb] at h1
    simp only [Option.some.injEq, Prod.mk.injEq] at hv
    obtain ⟨rfl, rfl⟩ := hv
    refine ⟨ρ, .value (.string .empty), w, ?_, .flat rfl, Sim.refl hH⟩
    simp [execOp, ho, h1.inv_snil, run_convert_bytes_string w s d e none l c hs hu hd, Conv.bytesToString]
  · rename_i b n c hb
    rw [hb] at h1
    obtain ⟨b', c', e1, hnc, hcc, _, hadr, _⟩ := h1.inv_slice
    split at hv
    · rename_i h0
      subst h0
      simp only [Option.some.injEq, Prod.mk.injEq] at hv
      obtain ⟨rfl, rfl⟩ := hv
      refine ⟨ρ, .value (.string .empty), w, ?_, .flat rfl, Sim.refl hH⟩
      have := run_bytesToString (P := P) w b' 0 c' [] (by simp [loadCells, loadCellsFrom])
      simp [execOp, ho, e1, run_convert_bytes_string w s d e (some b') 0 c' hs hu hd, this]
    · rename_i h0
      obtain ⟨g, sh, hg, rfl⟩ := hadr (by omega)
      simp only [Option.map_eq_some_iff, Option.bind_eq_some_iff] at hv
      obtain ⟨l, ⟨cs, hcs, hl⟩, hv⟩ := hv
      simp only [Prod.mk.injEq] at hv
      obtain ⟨rfl, rfl⟩ := hv
      obtain ⟨cs', h2, h3, h4⟩ := hH.cells hcs hg
      obtain ⟨ns, rfl, rfl⟩ := bytesOfRow_spec h2 hl
      have hld := run_cells (P := P) w h4
      rw [h3] at hld
      have := run_bytesToString (P := P) w ⟨g, sh + b.off, none⟩ n c' ns (by simpa using hld)
      refine ⟨ρ, .value (.string ⟨(ns.map fun n : Int => UInt8.ofNat n.toNat).toArray⟩), w, ?_, VRel.flat rfl, Sim.refl hH⟩
      simp [execOp, ho, e1, run_convert_bytes_string w s d e (some _) n c' hs hu hd, this, foldl_push]
  · cases hv

theorem byteV_spec : ∀ {cs : List Value} {l : List UInt8}, bytesOfRow cs = some l → cs.all isByteV = true → l.length = cs.length ∧ ∀ (j : Nat) x, l[j]? = some x → cs[j]? = some (.int .u8 x.toNat) := by
  intro cs
  induction cs with
  | nil =>
    intro l h _
    simp only [bytesOfRow, Option.some.injEq] at h
    subst h
    exact ⟨rfl, fun j x h => by simp at h⟩
  | cons c cs ih =>
    intro l h ha
    unfold bytesOfRow at h
    split at h
    · rename_i e; cases e
    · rename_i n r e
      cases e
      simp only [Option.map_eq_some_iff] at h
      obtain ⟨l', hl', rfl⟩ := h
      simp only [List.all_cons, Bool.and_eq_true] at ha
      obtain ⟨h1, h2⟩ := ih hl' ha.2
      refine ⟨by simp [h1], fun j x hj => ?_⟩
      cases j with
      | zero =>
        simp only [List.getElem?_cons_zero, Option.some.injEq] at hj ⊢
        subst hj
        have hb := ha.1
        simp only [isByteV, Bool.and_eq_true, decide_eq_true_eq] at hb
        have : ((UInt8.ofNat n.toNat).toNat : Int) = n := by
          rw [UInt8.toNat_ofNat']
          omega
        rw [this]
      | succ j => simpa using h2 j x (by simpa using hj)
    · cases h

theorem does_ust (hH : HRel P base ρ H w) (he : EvR okx ρ F a) {c : Call} {x y : Operand} {pt it e : TypeId} (hx : okx x = true) (hy : okx y = true) (ho : o.op = .call c) (hb : c.callee = .builtin .unsafeString) (ha : c.args.toList = [x, y]) (ht : c.argTypes.toList = [pt, it])
    (hp : P.underlying pt = some (.pointer e)) (hce : P.cellsOf e = 1) (hv : memOp F H (.ust e x y) = some (v, H')) : Does P base ρ H a o v H' w := by
  have h1 := he x hx
  have h2 := he y hy
  simp only [memOp] at hv
  split at hv
  · rename_i b n hbx hn
    rw [hbx] at h1; rw [hn] at h2
    obtain ⟨g, s, hg, e1⟩ := h1.inv_pointer
    have e2 := h2.int
    split at hv
    · rename_i cs ty hrow
      split at hv
      · rename_i hcond
        obtain ⟨hty, hoff, hpos, hlen, hbig, hall⟩ := hcond
        subst hty
        simp only [Option.map_eq_some_iff, Prod.mk.injEq] at hv
        obtain ⟨l, hl, rfl, rfl⟩ := hv
        have hbk := hH.blk _ _ _ hg
        rw [hrow] at hbk
        obtain ⟨hbase, hs0, cc, fr, k1, k2, k3, k4, k5⟩ := hbk
        subst hs0
        obtain ⟨q1, q2⟩ := byteV_spec hl hall
        have hll : l.length = n.toNat := by rw [q1]; simp; omega
        have hnn : (n : Int) = (l.length : Int) := by rw [hll]; omega
        have hcell : ∀ j x, l[j]? = some x → w.cell? ((⟨g, 0, none⟩ : Addr).add j) = some (.int .u8 x.toNat) := by
          intro j x hj
          have h3 := q2 j x hj
          rw [List.getElem?_take] at h3
          split at h3
          · obtain ⟨v', h4, h5⟩ := k5 j _ h3
            rw [h5.int] at h4
            rw [Addr.add_lit]
            simp [World.cell?, k1, h4]
          · cases h3
        have hne : l ≠ [] := by intro h; rw [h] at hll; simp at hll; omega
        have hr := fun t => Lib.run_unsafeString_row (P := P) w pt it t ty hp hce g cc.size (by simp [World.shape?, k1]) l hne (by omega) (by omega) hcell
        refine ⟨ρ, .value (.string ⟨l.toArray⟩), w.freeze ⟨g, 0, none⟩ l.length, ?_, VRel.flat rfl, ?_⟩
        · have ea := args_two ha
          have et : c.argTypes = #[pt, it] := Array.toList_inj.1 ht
          have hx : (execOp a.eval o) = (do let d ← resolve a.eval c o.type; invoke d.target d.args) := by simp [execOp, ho]
          rw [hx]
          have e1' : a.eval x = .pointer (some ⟨g, 0, none⟩) := by rw [e1, hoff]
          have e2' : a.eval y = .int .i64 l.length := by rw [e2, hnn]
          simp [resolve, hb, invoke, builtin, et, ea, e1', e2', hr]
        · have f0 : ∀ k, k ≠ g → (w.freeze ⟨g, 0, none⟩ l.length).heap[k]? = w.heap[k]? := by
            intro k hk
            unfold World.freeze
            split
            · rfl
            · show (w.heap.modify g _)[k]? = _
              rw [Array.getElem?_modify, if_neg (fun e => hk e.symm)]
          have f1 : (w.freeze ⟨g, 0, none⟩ l.length).heap.size = w.heap.size := by unfold World.freeze; split <;> simp
          have f2 : (w.freeze ⟨g, 0, none⟩ l.length).os = w.os := by unfold World.freeze; split <;> rfl
          have f3 : (w.freeze ⟨g, 0, none⟩ l.length).tape = w.tape := by unfold World.freeze; split <;> rfl
          have f4 : (w.freeze ⟨g, 0, none⟩ l.length).output = w.output := by unfold World.freeze; split <;> rfl
          exact hH.write hg (by rw [hrow]; rfl) f0 f1 f2 f3 f4 .dead trivial
      · cases hv
    · cases hv
  · cases hv

theorem does_mkm (hH : HRel P base ρ H w) {t : TypeId} (ho : o.op = .makeMap t none) (hv : memOp F H .mkm = some (v, H')) : Does P base ρ H a o v H' w := by
  simp only [memOp, Option.some.injEq, Prod.mk.injEq] at hv
  obtain ⟨rfl, rfl⟩ := hv
  have hs := hH.alloc (.map #[] 0) (.map #[] 0) none ⟨hH.sz, rfl, #[], (by show (w.heap.push _)[w.heap.size]? = _; simp), rfl, fun i e e' h _ => by simp at h⟩
  refine ⟨_, .value (.map (some w.heap.size)), _, ?_, .map (Ren.add_same _ _ _ _), hs⟩
  simp [execOp, ho, Instr.makeMap]

theorem does_mks (hH : HRel P base ρ H w) (he : EvR okx ρ F a) {t e : TypeId} {x y : Operand} {i : TypeInfo} {z : Value} (hx : okx x = true) (hy : okx y = true) (ho : o.op = .makeSlice t x y) (hu : P.underlying t = some (.slice e)) (hi : P.info? e = some i)
    (hz : tyZero P e = some z) (hzs : z.cells.size = i.size) (hv : memOp F H (.mks i.bytes z.cells.toList x y) = some (v, H')) : Does P base ρ H a o v H' w := by
  have h1 := he x hx
  have h2 := he y hy
  simp only [memOp] at hv
  split at hv
  · rename_i k l k' c e1 e2
    rw [e1] at h1; rw [e2] at h2
    split at hv
    · rename_i hc
      simp only [Option.some.injEq, Prod.mk.injEq] at hv
      obtain ⟨rfl, rfl⟩ := hv
      obtain ⟨zf, hzt, i', hi', hz'⟩ := tyZero_spec hz
      rw [hi] at hi'; cases hi'
      have hb : (i.bytes : Int) * c ≤ 281474976710656 := by
        have h3 : (i.bytes : Int) ≤ 2 ^ 10 := by exact_mod_cast hc.2.2.2
        have h4 : (i.bytes : Int) * c ≤ 2 ^ 10 * 2 ^ 30 := Int.mul_le_mul h3 (by exact_mod_cast hc.2.2.1) (by omega) (by decide)
        omega
      have hrun := run_make (P := P) w t e i z hu hi hz' k k' l c hc.1 hc.2.1 hb (by omega)
      refine ⟨_, .value _, _, by simp [execOp, ho, h1.int, h2.int, hrun], exact_row _ ρ H w (by omega), Sim.row hH (VsRel.of_flat (flat_zeroCells (flat_cells zf hzt) c.toNat)) (madeCells z.cells (c.toNat * i.size)) e (0, 0) (rest := []) ?_ (okFrozen_zero _)⟩
      rw [← hzs, made_eq]; simp
    · cases hv
  · cases hv

/-! ### Maps -/
theorem sameNow_flat {d : TypeDesc} {k x : Value} {b : Bool} (h : Instr.sameNow d k x = some b) : flat0 k = true := by
  unfold Instr.sameNow at h
  split at h <;> first | rfl | cases h
theorem sameNow_true {d : TypeDesc} {k x : Value} (h : Instr.sameNow d k x = some true) : x = k ∧ Instr.sameBits 10000 x k = true := by
  unfold Instr.sameNow at h
  split at h
  · split at h
    · simp at h; subst h; rename_i e; subst e; simp [Instr.sameBits]
    · cases h
  · simp only [Option.some.injEq] at h
    have e := (Go.MapKept.bytes_beq _ _).1 h
    subst e
    exact ⟨rfl, h⟩
  · simp at h; subst h; simp [Instr.sameBits]
  · cases h

theorem findNow_rel {ρ : Ren} {d : TypeDesc} {k k' : Value} (hk : VRel ρ k k') : ∀ (l l' : List MapEntry) (n : Nat) (r : Option (Nat × Value)), l.length = l'.length →
    (∀ (i : Nat) e e', l[i]? = some e → l'[i]? = some e' → e'.key = e.key ∧ flat0 e.key = true ∧ VRel ρ e.val e'.val) → Instr.findNow d k l n = some r →
    match r with
    | none => Instr.findNow d k' l' n = some none
    | some (i, v) => ∃ v', Instr.findNow d k' l' n = some (some (i, v')) ∧ VRel ρ v v' ∧ n ≤ i ∧ i < n + l.length ∧ k' = k ∧ ∃ e, l[i - n]? = some e ∧ e.key = k ∧ Instr.sameBits 10000 e.key k = true := by
  intro l
  induction l with
  | nil =>
    intro l' n r hl _ h
    have : l' = [] := by simpa using hl.symm
    subst this
    simp only [Instr.findNow, Option.some.injEq] at h
    subst h
    rfl
  | cons e l ih =>
    intro l' n r hl hp h
    cases l' with
    | nil => simp at hl
    | cons e' l' =>
      obtain ⟨hk1, hk2, hk3⟩ := hp 0 e e' rfl rfl
      simp only [Instr.findNow] at h
      split at h
      · rename_i hs
        cases h
        have hf := sameNow_flat hs
        have hkk := hk.eq_of_flat0 hf
        obtain ⟨h1, h2⟩ := sameNow_true hs
        exact ⟨e'.val, by simp [Instr.findNow, hkk, hk1, hs], hk3, Nat.le_refl _, by simp, hkk, e, by simp, h1, h2⟩
      · rename_i hs
        have hf := sameNow_flat hs
        have hkk := hk.eq_of_flat0 hf
        have := ih l' (n + 1) r (by simpa using hl) (fun i x x' h1 h2 => hp (i + 1) x x' (by simpa using h1) (by simpa using h2)) h
        cases r with
        | none => simp only at this ⊢; simp only [Instr.findNow, hkk, hk1, hs]; rw [hkk] at this; exact this
        | some p =>
          obtain ⟨i, v⟩ := p
          simp only at this ⊢
          obtain ⟨v', h1, h2, h3, h4, h5, x, h6, h7⟩ := this
          refine ⟨v', ?_, h2, by omega, by simp; omega, h5, x, ?_, h7⟩
          · simp only [Instr.findNow, hkk, hk1, hs]; rw [hkk] at h1; exact h1
          · rw [show i - n = (i - (n + 1)) + 1 from by omega]; simpa using h6
      · cases h

theorem entries_at {ρ : Ren} {es es' : Array MapEntry} (h : EntriesRel ρ es es') : es.toList.length = es'.toList.length ∧ ∀ (i : Nat) e e', es.toList[i]? = some e → es'.toList[i]? = some e' → e'.key = e.key ∧ flat0 e.key = true ∧ VRel ρ e.val e'.val :=
  ⟨by simpa using h.1, fun i e e' h1 h2 => h.2 i e e' (by simpa using h1) (by simpa using h2)⟩

theorem checkKey_plain {d : TypeDesc} {kt : TypeId} (hd : P.underlying kt = some d) (hp : plainKey d = true) (em : Bool) (n : Nat) (k : Value) : (Instr.checkKey em (n + 1) kt k).run P w = .ok () w := by
  unfold Instr.checkKey
  simp only [Sem.run_bind, run_underlying hd, Result.andThen]
  cases d <;> simp [plainKey] at hp <;> simp

theorem does_lkp (hH : HRel P base ρ H w) (he : EvR okx ρ F a) {t kt et : TypeId} {d : TypeDesc} {z : Value} {x y : Operand} {ok : Bool} (hx : okx x = true) (hy : okx y = true) (ho : o.op = .lookup t x y ok) (hu : P.underlying t = some (.map kt et))
    (hd : P.underlying kt = some d) (hz : tyZero P et = some z) (hp : plainKey d = true) (hv : memOp F H (.lkp d z x y ok) = some (v, H')) : Does P base ρ H a o v H' w := by
  have h1 := he x hx
  have h2 := he y hy
  obtain ⟨zf, hzt, _⟩ := tyZero_spec hz
  have zr := run_tyZero w hz
  simp only [memOp] at hv
  split at hv
  · cases hv
  · rename_i es hes
    have hm : ∃ es', EntriesRel ρ es es' ∧ ((a.eval x = .map none ∧ es' = #[]) ∨ ∃ r' clock, a.eval x = .map (some r') ∧ w.heap[r']? = some (.map es' clock)) := by
      unfold entries at hes
      split at hes
      · rename_i hb
        cases hes
        rw [hb] at h1
        exact ⟨#[], ⟨rfl, fun i e e' h _ => by simp at h⟩, .inl ⟨h1.eq_of_flat0 rfl, rfl⟩⟩
      · rename_i r hb
        rw [hb] at h1
        obtain ⟨r', e1, hr⟩ := h1.inv_map
        split at hes
        · rename_i es0 clock hx0
          cases hes
          have hb0 := hH.blk _ _ _ hr
          rw [hx0] at hb0
          obtain ⟨_, _, es', h3, h4⟩ := hb0
          exact ⟨es', h4, .inr ⟨r', clock, e1, h3⟩⟩
        · cases hes
      · cases hes
    obtain ⟨es', hrel, hm⟩ := hm
    have hex : ∀ r', (Instr.findKey kt (a.eval y) es'.toList).run P w = .ok r' w → (execOp a.eval o).run P w = .ok (.value (if ok then .tuple #[(match r' with | some (_, v) => v | none => z), .bool r'.isSome] else (match r' with | some (_, v) => v | none => z))) w := by
      intro r' hr'
      rcases hm with ⟨e1, rfl⟩ | ⟨b, clock, e1, h3⟩
      · have hck := checkKey_plain (w := w) hd hp true 9999 (a.eval y)
        cases r' with
        | none => simp [execOp, ho, Instr.lookup, e1, run_underlying hu, hck, hr', zr]
        | some p => simp [execOp, ho, Instr.lookup, e1, run_underlying hu, hck, hr']
      · have hck := checkKey_plain (w := w) hd hp es'.isEmpty 9999 (a.eval y)
        have hgo := Go.MapKept.run_getObj_map (P := P) h3
        cases r' with
        | none => simp [execOp, ho, Instr.lookup, e1, run_underlying hu, hgo, hck, hr', zr]
        | some p => simp [execOp, ho, Instr.lookup, e1, run_underlying hu, hgo, hck, hr']
    split at hv
    · rename_i i u hf
      simp only [Option.some.injEq, Prod.mk.injEq] at hv
      obtain ⟨rfl, rfl⟩ := hv
      obtain ⟨h5, h6⟩ := entries_at hrel
      obtain ⟨u', h7, h8, _⟩ := findNow_rel h2 _ _ _ _ h5 h6 hf
      refine ⟨ρ, _, w, hex _ (Go.MapKept.run_findKey hd h7), ?_, Sim.refl hH⟩
      cases ok with
      | true => exact VsRel.tuple (VsRel.cons h8 (VsRel.cons (.flat rfl) (VsRel.nil _)))
      | false => exact h8
    · rename_i hf
      simp only [Option.some.injEq, Prod.mk.injEq] at hv
      obtain ⟨rfl, rfl⟩ := hv
      obtain ⟨h5, h6⟩ := entries_at hrel
      have h7 := findNow_rel h2 _ _ _ _ h5 h6 hf
      refine ⟨ρ, _, w, hex _ (Go.MapKept.run_findKey hd h7), ?_, Sim.refl hH⟩
      cases ok with
      | true => exact VsRel.tuple (VsRel.cons (.of_flat zf) (VsRel.cons (.flat rfl) (VsRel.nil _)))
      | false => exact .of_flat zf
    · cases hv

theorem does_mup (hH : HRel P base ρ H w) (he : EvR okx ρ F a) {t kt et : TypeId} {d : TypeDesc} {x y u : Operand} (hx : okx x = true) (hy : okx y = true) (huo : okx u = true) (ho : execOp a.eval o = execOp a.eval { o with op := .mapUpdate t x y u }) (hu : P.underlying t = some (.map kt et))
    (hd : P.underlying kt = some d) (hp : plainKey d = true) (hv : memOp F H (.mup d x y u) = some (v, H')) : Does P base ρ H a o v H' w := by
  have h1 := he x hx
  have h2 := he y hy
  have h3 := he u huo
  simp only [memOp] at hv
  split at hv
  · rename_i r hb
    rw [hb] at h1
    obtain ⟨r', e1, hr⟩ := h1.inv_map
    split at hv
    · rename_i es clock hx0
      split at hv
      · rename_i hflat
        have hk := h2.eq_of_flat0 hflat
        have hb0 := hH.blk _ _ _ hr
        rw [hx0] at hb0
        obtain ⟨hbase, _, es', h4, hrel⟩ := hb0
        obtain ⟨h5, h6⟩ := entries_at hrel
        have hgo := Go.MapKept.run_getObj_map (P := P) h4
        have hck := checkKey_plain (w := w) hd hp false 9999 (a.eval y)
        have hlt : r' < w.heap.size := (Array.getElem?_eq_some_iff.1 h4).1
        have hso : ∀ ob, (setObj r' ob).run P w = .ok () { w with heap := w.heap.setIfInBounds r' ob } := fun ob => Go.MapKept.run_setObj_map ob h4
        have hsim : ∀ (es1 es1' : Array MapEntry) (c1 : Nat), EntriesRel ρ es1 es1' → Sim P base ρ H w ρ (H.upd r (.map es1 c1)) { w with heap := w.heap.setIfInBounds r' (.map es1' c1) } := by
          intro es1 es1' c1 hr1
          exact hH.write hr (by rw [hx0]; rfl) (w' := { w with heap := w.heap.setIfInBounds r' (.map es1' c1) }) (fun k hk => by simp [Ne.symm hk]) (by simp) rfl rfl rfl (.map es1 c1) ⟨hbase, rfl, es1', by simp [hlt], hr1⟩
        split at hv
        · rename_i i u0 hf
          simp only [Option.some.injEq, Prod.mk.injEq] at hv
          obtain ⟨rfl, rfl⟩ := hv
          obtain ⟨u', h7, _, _, hi, _, e, he1, he2, he3⟩ := findNow_rel h2 _ _ _ _ h5 h6 hf
          simp only [Nat.sub_zero] at he1
          have hi' : i < es'.size := by have := hrel.1; simp at hi; omega
          have hke : (es'[i]?.map (·.key)).getD (a.eval y) = e.key := by
            have := (h6 i e es'[i] he1 (by simp [hi'])).1
            simp [hi', this]
          have hks : (Instr.keyThatStays e.key (a.eval y)).run P w = .ok (a.eval y) w := by
            simp [Instr.keyThatStays, hk, he3]
          refine ⟨ρ, .skip, _, ?_, rfl, hsim (es.modify i fun e => { e with key := F.eval y, val := F.eval u }) (es'.modify i fun e => { e with key := a.eval y, val := a.eval u }) clock ?_⟩
          · rw [ho]
            simp only [execOp, Instr.mapUpdate, e1]
            simp only [Sem.run_bind, run_underlying hu, Result.andThen_ok, hgo, hck, Go.MapKept.run_findKey hd h7]
            have hke' : (Option.map (fun x => x.key) es'[i]?).getD (a.eval y) = e.key := hke
            simp only [hke', hks, Result.andThen_ok, hso]
            rfl
          · refine ⟨by simp [hrel.1], fun j x x' hj hj' => ?_⟩
            rw [Array.getElem?_modify] at hj hj'
            split at hj
            · rename_i hij
              rw [if_pos hij] at hj'
              simp only [Option.map_eq_some_iff] at hj hj'
              obtain ⟨x0, hx0', rfl⟩ := hj
              obtain ⟨x1, hx1, rfl⟩ := hj'
              exact ⟨by simp [hk], hflat, h3⟩
            · rename_i hij
              rw [if_neg hij] at hj'
              exact hrel.2 j x x' hj hj'
        · rename_i hf
          simp only [Option.some.injEq, Prod.mk.injEq] at hv
          obtain ⟨rfl, rfl⟩ := hv
          have h7 := findNow_rel h2 _ _ _ _ h5 h6 hf
          refine ⟨ρ, .skip, _, ?_, rfl, hsim (es.push { key := F.eval y, val := F.eval u, born := clock }) (es'.push { key := a.eval y, val := a.eval u, born := clock }) (clock + 1) ?_⟩
          · rw [ho]
            simp only [execOp, Instr.mapUpdate, e1]
            simp only [Sem.run_bind, run_underlying hu, Result.andThen_ok, hgo, hck, Go.MapKept.run_findKey hd h7, hso]
            rfl
          · refine ⟨by simp [hrel.1], fun j x x' hj hj' => ?_⟩
            rw [Array.getElem?_push] at hj hj'
            split at hj
            · rename_i hij
              rw [if_pos (by rw [← hrel.1]; exact hij)] at hj'
              cases hj; cases hj'
              exact ⟨by simp [hk], hflat, h3⟩
            · rename_i hij
              rw [if_neg (by rw [← hrel.1]; exact hij)] at hj'
              exact hrel.2 j x x' hj hj'
        · cases hv
      · cases hv
    · cases hv
  · cases hv

/-! ### Walks of a string; the size of a map -/
theorem does_itr (hH : HRel P base ρ H w) (he : EvR okx ρ F a) {t : TypeId} {x : Operand} (hx : okx x = true) (ho : o.op = .range t x) (hu : P.underlying t = some .string) (hv : memOp F H (.itr x) = some (v, H')) : Does P base ρ H a o v H' w := by
  have h1 := he x hx
  simp only [memOp] at hv
  split at hv
  · rename_i str hb
    rw [hb] at h1
    simp only [Option.some.injEq, Prod.mk.injEq] at hv
    obtain ⟨rfl, rfl⟩ := hv
    have hs := hH.alloc (.stringIter str 0) (.iter str 0) none ⟨hH.sz, rfl, (by show (w.heap.push _)[w.heap.size]? = _; simp)⟩
    refine ⟨_, .value (.pointer (some ⟨w.heap.size, 0, none⟩)), _, ?_, row_at _ ρ H w, hs⟩
    simp [execOp, ho, h1.string, Instr.range, run_underlying hu]
  · cases hv

theorem does_nxt (hH : HRel P base ρ H w) (he : EvR okx ρ F a) {x : Operand} (hx : okx x = true) (ho : o.op = .next x true) (hv : memOp F H (.nxt x) = some (v, H')) : Does P base ρ H a o v H' w := by
  have h1 := he x hx
  simp only [memOp] at hv
  split at hv
  · rename_i r sp hb
    rw [hb] at h1
    obtain ⟨g, s, hg, e1⟩ := h1.inv_pointer
    split at hv
    · rename_i str pos hx0
      have hb0 := hH.blk _ _ _ hg
      rw [hx0] at hb0
      obtain ⟨hbase, rfl, h3⟩ := hb0
      simp only [Nat.add_zero] at e1
      have hgo : (getObj g).run P w = .ok (.stringIter str pos) w := by simp [getObj, Sem.run, h3]
      have hlt : g < w.heap.size := (Array.getElem?_eq_some_iff.1 h3).1
      split at hv
      · rename_i hpos
        simp only [Option.some.injEq, Prod.mk.injEq] at hv
        obtain ⟨rfl, rfl⟩ := hv
        have hso : (setObj g (.stringIter str (pos + (Utf8.decode str pos).2))).run P w = .ok () { w with heap := w.heap.setIfInBounds g (.stringIter str (pos + (Utf8.decode str pos).2)) } := by simp [setObj, Sem.run, h3]
        refine ⟨ρ, .value (.tuple #[.bool true, .int .i64 pos, .int .i32 (Utf8.decode str pos).1]), _, ?_, VRel.of_flat (by simp [Am.flat, flat0]), hH.write hg (by rw [hx0]; rfl) (w' := { w with heap := w.heap.setIfInBounds g (.stringIter str (pos + (Utf8.decode str pos).2)) })
          (fun k hk => by simp [Ne.symm hk]) (by simp) rfl rfl rfl _ ⟨hbase, rfl, by simp [hlt]⟩⟩
        simp only [execOp, ho, Instr.next, e1]
        simp only [Sem.run_bind, hgo, Result.andThen_ok, hpos, if_true, hso]
        rfl
      · rename_i hpos
        simp only [Option.some.injEq, Prod.mk.injEq] at hv
        obtain ⟨rfl, rfl⟩ := hv
        refine ⟨ρ, .value (.tuple #[.bool false]), w, ?_, VRel.of_flat (by simp [Am.flat, flat0]), Sim.refl hH⟩
        simp only [execOp, ho, Instr.next, e1]
        simp only [Sem.run_bind, hgo, Result.andThen_ok, hpos, if_false]
        rfl
    · cases hv
  · cases hv

theorem does_lnm (hH : HRel P base ρ H w) (he : EvR okx ρ F a) {c : Call} {x : Operand} {t kt et : TypeId} (hx : okx x = true) (ho : o.op = .call c) (hb : c.callee = .builtin .len) (ha : c.args.toList = [x]) (ht : c.argTypes.toList = [t])
    (hu : P.underlying t = some (.map kt et)) (hv : memOp F H (.lnm x) = some (v, H')) : Does P base ρ H a o v H' w := by
  have h1 := he x hx
  have ea := args_one ha
  have et : c.argTypes = #[t] := Array.toList_inj.1 ht
  simp only [memOp, Option.map_eq_some_iff] at hv
  obtain ⟨es, hes, hv⟩ := hv
  simp only [Prod.mk.injEq] at hv
  obtain ⟨rfl, rfl⟩ := hv
  refine Gives.does hH ?_
  unfold entries at hes
  split at hes
  · rename_i hb0
    cases hes
    rw [hb0] at h1
    refine gives_builtin (v' := .int .i64 0) ho hb ?_ (.flat rfl)
    have : a.eval x = .map none := h1.eq_of_flat0 rfl
    simp [builtin, Builtin.len_, et, ea, this, run_underlying hu, goInt]
  · rename_i r hb0
    rw [hb0] at h1
    obtain ⟨r', e1, hr⟩ := h1.inv_map
    split at hes
    · rename_i es0 clock hx0
      cases hes
      have hb1 := hH.blk _ _ _ hr
      rw [hx0] at hb1
      obtain ⟨_, _, es', h3, h4⟩ := hb1
      refine gives_builtin (v' := .int .i64 es.size) ho hb ?_ (.flat rfl)
      have hgo := Go.MapKept.run_getObj_map (P := P) h3
      simp [builtin, Builtin.len_, et, ea, e1, run_underlying hu, hgo, goInt, h4.1]
    · cases hes
  · cases hes

end
end Go.Proofs.YtjmohjemgohlpaaGreatDoor.Am

/- The abstract machine: append. -/
namespace Go.Proofs.YtjmohjemgohlpaaGreatDoor.Am
open Go

section
variable {P : Program} {okx : Operand → Bool} {base : Nat} {ρ : Ren} {F : Fr} {a : Act} {o : Oper} {v : Value} {H H' : Hp} {w w' : World}

/-- a row is written, and is called by a new name from now on -/
theorem Sim.move (h : HRel P base ρ H w) {b g s : Nat} (hb : ρ b = some (g, s)) (ho : own (H.get b) = true)
    (hw : ∀ k, k ≠ g → w'.heap[k]? = w.heap[k]?) (hs : w'.heap.size = w.heap.size) (hos : w'.os = w.os) (htape : w'.tape = w.tape) (hout : w'.output = w.output) (x : Blk)
    (hx : BRel P base (ρ.add H.size (g, s) none) w' g s x) : Sim P base ρ H w (ρ.add H.size (g, s) none) ((H.upd b .dead).new x) w' := by
  have hn : ρ H.size = none := by
    cases e : ρ H.size with
    | none => rfl
    | some y => have := h.lt _ _ e; omega
  have hle := Ren.le_add (g, s) none hn
  have hget : ∀ c, ((H.upd b .dead).new x).get c = if c = H.size then x else if c = b then .dead else H.get c := by
    intro c; rw [Hp.get_new, Hp.get_upd]; rfl
  have hold : ∀ c g' s', ρ.add H.size (g, s) none c = some (g', s') → (c = H.size ∧ g' = g ∧ s' = s) ∨ (c ≠ H.size ∧ ρ c = some (g', s')) := by
    intro c g' s' hc
    by_cases e : c = H.size
    · subst e; rw [Ren.add_same] at hc; cases hc; exact .inl ⟨rfl, rfl, rfl⟩
    · rw [Ren.add_ne _ _ _ e] at hc; exact .inr ⟨e, hc⟩
  have hbg := (h.blk b g s hb).base ho
  refine ⟨hle, ⟨?_, ?_, ?_, ?_, by rw [hs]; exact h.sz⟩, ⟨by omega, hos, htape, hout, ?_⟩, ?_, by simp, ?_⟩
  · intro c g' s' hc
    rw [hget]
    rcases hold c g' s' hc with ⟨rfl, rfl, rfl⟩ | ⟨hne, hc'⟩
    · rw [if_pos rfl]; exact hx
    · rw [if_neg hne]
      split
      · trivial
      · rename_i hcb
        have hk := h.blk c g' s' hc'
        by_cases hoc : own (H.get c) = true
        · exact hk.keep hle (hw g' (fun e => hcb (by subst e; exact h.inj c b g' s' s hc' hb hoc ho)))
        · cases hgc : H.get c with
          | dead => trivial
          | row cs own' =>
            rw [hgc] at hk hoc
            cases own' with
            | true => simp [own] at hoc
            | false => exact BRel.keep (x := .row cs false) hk hle (hw g' (fun e => by have := hk.1; omega))
          | trow _ _ => rw [hgc] at hoc; simp [own] at hoc
          | map _ _ => rw [hgc] at hoc; simp [own] at hoc
          | iter _ _ => rw [hgc] at hoc; simp [own] at hoc
          | loop _ _ _ _ _ _ => rw [hgc] at hoc; simp [own] at hoc
          | deferred => rw [hgc] at hoc; simp [own] at hoc
  · intro c d g' s1 s2 hc hd hoc hod
    rw [hget] at hoc hod
    rcases hold c g' s1 hc with ⟨rfl, rfl, rfl⟩ | ⟨hnc, hc'⟩
    · rcases hold d _ s2 hd with ⟨rfl, _, _⟩ | ⟨hnd, hd'⟩
      · rfl
      · rw [if_neg hnd] at hod
        split at hod
        · simp [own] at hod
        · rename_i hdb
          exact absurd (h.inj d b g' s2 s1 hd' hb hod ho) hdb
    · rw [if_neg hnc] at hoc
      split at hoc
      · simp [own] at hoc
      · rename_i hcb
        rcases hold d _ s2 hd with ⟨rfl, rfl, rfl⟩ | ⟨hnd, hd'⟩
        · exact absurd (h.inj c b g' s1 s2 hc' hb hoc ho) hcb
        · rw [if_neg hnd] at hod
          split at hod
          · simp [own] at hod
          · exact h.inj c d g' s1 s2 hc' hd' hoc hod
  · intro c y hc
    obtain ⟨g', s'⟩ := y
    rcases hold c g' s' hc with ⟨rfl, _, _⟩ | ⟨_, hc'⟩
    · simp
    · have := h.lt _ _ hc'; simp; omega
  · intro k j hj
    have : (ρ.add H.size (g, s) none).n k = ρ.n k := by
      show (if k = g ∧ ρ.n k = none then none else ρ.n k) = ρ.n k
      split
      · rename_i e; exact e.2.symm
      · rfl
    rw [this] at hj
    rw [hs]; exact h.nlt k j hj
  · intro k hk hx'
    exact hw k (fun e => hx' ⟨b, s, by rw [e]; exact hb, ho⟩)
  · rintro k hk ⟨c, s', hc, hoc⟩
    rw [hget] at hoc
    rcases hold c k s' hc with ⟨rfl, rfl, _⟩ | ⟨hnc, hc'⟩
    · exact ⟨b, s, hb, ho⟩
    · rw [if_neg hnc] at hoc
      split at hoc
      · simp [own] at hoc
      · exact ⟨c, s', hc', hoc⟩
  · intro c y hc hc0
    obtain ⟨g', s'⟩ := y
    rcases hold c g' s' hc with ⟨rfl, _, _⟩ | ⟨_, hc'⟩
    · exact Nat.le_refl _
    · rw [hc'] at hc0; cases hc0

theorem run_append_none {t tx ty e : TypeId} {i : TypeInfo} (ht : P.underlying t = some (.slice e)) (hi : P.info? e = some i) (b : Option Addr) (l c : Nat) (x : Value) (hs : Src P i.size tx x 0 [] w) (h : l ≤ c) :
    (Builtin.append_ #[t, tx] ty #[.slice b l c, x]).run P w = .ok (.slice b l c) w := by
  have hl := hs.len w
  have hc := hs.cells
  rcases hs.kind with ⟨e', hk⟩ | hk <;> cases b <;> simp [Builtin.append_, run_underlying ht, run_underlying hk, sizeOf, typeInfo, hi, hl, h, hc, storeCells]

theorem appendTo_sim (hH : HRel P base ρ H w) {st xt ty e : TypeId} {i : TypeInfo} {z : Value} (hu : P.underlying st = some (.slice e)) (hi : P.info? e = some i) (hz : tyZero P e = some z) (hzs : z.cells.size = i.size)
    {eo : Option TypeId} (heo : ∀ u, eo = some u → u = e) {s s' x' : Value} (hs : VRel ρ s s') {n : Nat} {new new' : List Value} (hnew : VsRel ρ new new') (hlen : new.length = n * i.size) (hone : ∀ u ∈ new', u.oneCell' = true) (hsrc : Src P i.size xt x' n new' w) (hb0 : i.bytes ≠ 0)
    (hv : appendTo H i.size i.bytes eo s n new = some (v, H')) :
    ∃ ρ' v' w', (Builtin.append_ #[st, xt] ty #[s', x']).run P w = .ok v' w' ∧ VRel ρ' v v' ∧ Sim P base ρ H w ρ' H' w' := by
  obtain ⟨zf, hzt, i', hi', hz'⟩ := tyZero_spec hz
  rw [hi] at hi'; cases hi'
  have hlen' : new'.length = n * i.size := by rw [← hnew.1]; exact hlen
  cases s with
  | slice b0 len cap =>
    simp only [appendTo] at hv
    split at hv
    · rename_i h0
      subst h0
      split at hv
      · rename_i hle
        cases hv
        have hnil : new' = [] := by simpa using hlen'
        subst hnil
        cases b0 with
        | none =>
          have e1 := hs.inv_snil
          subst e1
          exact ⟨ρ, _, w, run_append_none hu hi none len cap x' hsrc hle, hs, Sim.refl hH⟩
        | some b =>
          obtain ⟨b', c', rfl, h1, h2, _⟩ := hs.inv_slice
          exact ⟨ρ, _, w, run_append_none hu hi (some b') len c' x' hsrc (by omega), hs, Sim.refl hH⟩
      · cases hv
    · rename_i h0
      split at hv
      · cases hv
      · rename_i hbig
        have hfit : ∀ c, c < len + n → Builtin.nextslicecap (len + n) c * i.bytes ≤ 281474976710656 := by
          intro c hc
          have h1 := nextslicecap_le hc
          have h2 := Nat.mul_le_mul_right i.bytes h1
          have h3 : 2 * (len + n) * i.bytes ≤ (4 * (len + n) + 4096) * i.bytes := Nat.mul_le_mul_right _ (by omega)
          omega
        have h63 : ((len + n : Nat) : Int) ≤ 9223372036854775807 := by
          have h3 : (4 * (len + n) + 4096) * 1 ≤ (4 * (len + n) + 4096) * i.bytes := Nat.mul_le_mul_left _ (by omega)
          omega
        split at hv
        · cases hv
        · rename_i old hold
          /- growing -/
          have grow : ∀ (eo : Option TypeId) (heo : ∀ u, eo = some u → u = e) (H1 : Hp) (b' : Option Addr) (c' : Nat) (olds : List Value), HRel P base ρ H1 w → H1.size = H.size → VsRel ρ old olds → old.length = len * i.size →
              (Builtin.firstCells i.size len (.slice b' len c')).run P w.drew = .ok olds.toArray w.drew → c' < len + n →
              ∃ ρ' v' w', (Builtin.append_ #[st, xt] ty #[.slice b' len c', x']).run P w = .ok v' w' ∧ VRel ρ' (.slice (some (roomy ⟨H.size, 0, none⟩ i.size)) (len + n) (len + n)) v' ∧ Sim P base ρ H1 w ρ' (H1.new (mkRow eo (old ++ new))) w' := by
            intro eo heo H1 b' c' olds hH1 hsz hrel hol hfc hg
            have hrun := run_append_grow_src (P := P) w st xt ty e i z hu hi hz' b' len c' olds hfc x' n new' hsrc hg h63 (hfit c' hg)
            have hgc := grownCap_ge w (len + n) c' e
            have hcc : ((olds ++ new').toArray ++ Builtin.zeroCells z.cells (grownCap w (len + n) c' e - (len + n))).toList = (olds ++ new') ++ zeroCells z.cells.toList (grownCap w (len + n) c' e - (len + n)) := by
              simp [builtinZero_eq]
            have hsize : ((olds ++ new').toArray ++ Builtin.zeroCells z.cells (grownCap w (len + n) c' e - (len + n))).size = grownCap w (len + n) c' e * i.size := by
              rw [← Array.length_toList, hcc]
              simp only [List.length_append, zeroCells_length, Array.length_toList, hzs, hlen', ← hrel.1, hol, ← Nat.add_mul]
              congr 1
              omega
            obtain ⟨ρ', h2, h3⟩ := roomy_row hH1 (hrel.append hnew) e heo (0, 0) hcc (okFrozen_zero _) rfl (n := len + n) (cap := grownCap w (len + n) c' e) (size := i.size) hgc (by omega)
            rw [hsz] at h2
            exact ⟨ρ', _, _, hrun, h2, h3⟩
          cases b0 with
          | none =>
            simp only at hv
            split at hv
            · rename_i hc0
              cases hv
              have e1 := hs.inv_snil
              subst e1
              simp only [oldCells] at hold
              split at hold
              · rename_i hl0
                cases hold
                subst hl0 hc0
                have := grow eo heo H none 0 [] hH rfl (VsRel.nil _) (by simp) (run_firstCells_none w.drew i.size 0 0 0) (by omega)
                simpa using this
              · cases hold
            · cases hv
          | some b =>
            obtain ⟨b', c', rfl, h1, h2, h3, h4, h5⟩ := hs.inv_slice
            have holds : ∃ olds, VsRel ρ old olds ∧ old.length = len * i.size ∧ (Builtin.firstCells i.size len (.slice (some b') len c')).run P w.drew = .ok olds.toArray w.drew := by
              simp only [oldCells] at hold
              split at hold
              · rename_i hl0
                cases hold
                subst hl0
                exact ⟨[], VsRel.nil _, by simp, run_firstCells_some w.drew i.size 0 b' 0 c' [] (by simp) (fun j v h => by simp at h)⟩
              · rename_i hl0
                obtain ⟨g, sh, hg, rfl⟩ := h4 (by omega)
                obtain ⟨cs', k1, k2, k3⟩ := hH.cells hold hg
                refine ⟨cs', k1, by rw [k1.1, k2], run_firstCells_some w.drew i.size len _ len c' cs' k2 (fun j v hj => ?_)⟩
                rw [Addr.add_lit]
                simpa using k3 j v hj
            obtain ⟨olds, ho1, ho2, ho3⟩ := holds
            simp only at hv
            split at hv
            · rename_i hex
              have hcc := h3 hex
              subst hcc
              split at hv
              · rename_i hlt
                cases hv
                exact grow eo heo H (some b') cap olds hH rfl ho1 ho2 ho3 hlt
              · rename_i hlt
                simp only [Option.map_eq_some_iff] at hv
                obtain ⟨H1, hset, hv⟩ := hv
                simp only [Prod.mk.injEq] at hv
                obtain ⟨rfl, rfl⟩ := hv
                obtain ⟨g, sh, hg, rfl⟩ := h4 (by omega)
                have hst := store_sim (P := P) hH (b := ⟨b.block, b.off + len * i.size, none⟩) hg hnew hset
                have hroom : len + n ≤ cap := by omega
                have hfacts : (∀ j, j < new'.length → (w.cell? ⟨g, sh + b.off + len * i.size + j, none⟩).isSome = true) ∧ (∀ j, j < new'.length → w.frozen? ⟨g, sh + b.off + len * i.size + j, none⟩ = false) := by
                  unfold Hp.setCells at hset
                  split at hset
                  · rename_i c hx
                    split at hset
                    · rename_i hc
                      have hb := hH.blk _ _ _ hg
                      simp only at hx
                      rw [hx] at hb
                      obtain ⟨hbase, cc, t, fr, k1, k2, k3, k4, k5⟩ := hb
                      have hsz : ∀ j, j < new'.length → sh + b.off + len * i.size + j < cc.size := fun j hj => by have := hnew.1; have := hc.1; simp only at this; omega
                      refine ⟨fun j hj => by simp [World.cell?, k1, hsz j hj], fun j hj => ?_⟩
                      have := k2 _ (hsz j hj)
                      simp only [World.frozen?, k1, Bool.and_eq_false_iff, decide_eq_false_iff_not]
                      omega
                    · cases hset
                  · rename_i c tyr hx
                    split at hset
                    · rename_i hc
                      have hb := hH.blk _ _ _ hg
                      simp only at hx
                      rw [hx] at hb
                      obtain ⟨hbase, cc, t, fr, k1, k2, k3, k4, k5⟩ := hb.untype
                      have hsz : ∀ j, j < new'.length → sh + b.off + len * i.size + j < cc.size := fun j hj => by have := hnew.1; have := hc.1; simp only at this; omega
                      refine ⟨fun j hj => by simp [World.cell?, k1, hsz j hj], fun j hj => ?_⟩
                      have := k2 _ (hsz j hj)
                      simp only [World.frozen?, k1, Bool.and_eq_false_iff, decide_eq_false_iff_not]
                      omega
                    · cases hset
                  · cases hset
                have hrun := run_append_room_src (P := P) w st xt ty e i hu hi g (sh + b.off) len cap x' n new' hsrc hroom hfacts.1 hfacts.2
                have e1 : sh + (b.off + len * i.size) = sh + b.off + len * i.size := by omega
                have hsim := hst.2
                simp only [e1] at hsim
                refine ⟨ρ, _, _, hrun, ?_, hsim⟩
                exact .slice hroom (Nat.le_refl _) (fun _ => rfl) (fun _ => ⟨g, sh, hg, rfl⟩) h5
            · rename_i hex
              split at hv
              · rename_i hry
                simp only [Bool.and_eq_true] at hry
                have hpos : 0 < cap := by
                  have := hry.2
                  simpa [Nat.blt_eq] using this
                split at hv
                · rename_i c hx
                  split at hv
                  · rename_i hoff
                    cases hv
                    obtain ⟨g, sh, hg, rfl⟩ := h4 hpos
                    obtain ⟨N, hN, hle⟩ := h5 i.size hry.1 hpos
                    have hb := hH.blk _ _ _ hg
                    rw [hx] at hb
                    obtain ⟨hbase, cc, t, fr, k1, k2, k3, k4, k5⟩ := hb
                    simp only [hoff, Nat.add_zero] at hN hle ho3 ⊢
                    rw [k4] at hN
                    cases hN
                    by_cases hroom : len + n ≤ c'
                    · have hm : (len + n) * i.size ≤ c' * i.size := Nat.mul_le_mul_right _ hroom
                      rw [Nat.add_mul] at hm
                      have hsz : ∀ j, j < new'.length → sh + len * i.size + j < cc.size := fun j hj => by omega
                      have hrun := run_append_room_src (P := P) w st xt ty e i hu hi g sh len c' x' n new' hsrc hroom (fun j hj => by simp [World.cell?, k1, hsz j hj]) (fun j hj => by
                        have := k2 _ (hsz j hj)
                        simp only [World.frozen?, k1, Bool.and_eq_false_iff, decide_eq_false_iff_not]
                        omega)
                      have hat := heap_setCells_at new' (sh + len * i.size) w cc k1 (by omega)
                      have hsl : (setAll cc.toList (sh + len * i.size) new').length = cc.size := by rw [setAll_length _ _ _ (by simp; omega)]; simp
                      have hn0 : ρ H.size = none := by
                        cases e : ρ H.size with
                        | none => rfl
                        | some y => have := hH.lt _ _ e; omega
                      have hle2 := Ren.le_add (g, sh) none hn0
                      have hsim := Sim.move hH hg (by rw [hx]; rfl) (w' := w.setCells g (sh + len * i.size) new') (fun k hk => World.heap_setCells_other' g _ _ w k hk) (size_setCells g _ _ w) (World.os_setCells w g _ _) (tape_setCells g _ _ w) (World.output_setCells w g _ _) (.row (old ++ new) true)
                        ⟨hbase, _, t, fr, hat, by rw [show (Array.mk (setAll cc.toList (sh + len * i.size) new')).size = cc.size from hsl]; exact k2,
                          by rw [show (Array.mk (setAll cc.toList (sh + len * i.size) new')).size = cc.size from hsl, List.length_append, ho2, hlen]; omega,
                          by rw [show (Array.mk (setAll cc.toList (sh + len * i.size) new')).size = cc.size from hsl]; exact hle2.2 _ _ k4, ?_⟩
                      · refine ⟨_, _, _, hrun, ?_, hsim⟩
                        refine .slice (Nat.le_refl _) hroom (fun h => by simp [roomy, isExact] at h) (fun _ => ⟨g, sh, Ren.add_same _ _ _ _, rfl⟩) (fun k hk _ => ⟨cc.size, hle2.2 _ _ k4, ?_⟩)
                        have h := isRoomy_iff.1 hk
                        simp only [roomy, Option.some.injEq, Nat.add_right_cancel_iff] at h
                        subst h
                        exact hle
                      · intro j u hj
                        suffices hq : ∃ v', (setAll cc.toList (sh + len * i.size) new')[sh + j]? = some v' ∧ VRel (ρ.add H.size (g, sh) none) u v' by simpa using hq
                        rw [setAll_spec _ _ _ (by simp; omega)]
                        have et : (cc.toList.take (sh + len * i.size)).length = sh + len * i.size := by simp; omega
                        rcases Nat.lt_or_ge j (len * i.size) with hj1 | hj1
                        · rw [List.getElem?_append_left (by omega)] at hj
                          rw [List.append_assoc, List.getElem?_append_left (by omega), List.getElem?_take_of_lt (by omega)]
                          /- the old cells -/
                          simp only [oldCells] at hold
                          split at hold
                          · rename_i hl0; subst hl0; simp at hj1
                          · simp only [Hp.cells?, hx, hoff, Nat.zero_add, List.drop_zero] at hold
                            split at hold
                            · cases hold
                              rw [List.getElem?_take_of_lt hj1] at hj
                              obtain ⟨u', q1, q2⟩ := k5 j u hj
                              exact ⟨u', by simpa using q1, q2.mono hle2⟩
                            · cases hold
                        · rw [List.getElem?_append_right (by omega), ho2] at hj
                          rw [List.append_assoc, List.getElem?_append_right (by omega), et, show sh + j - (sh + len * i.size) = j - len * i.size from by omega]
                          obtain ⟨u', q1, q2⟩ := hnew.get hj
                          rw [List.getElem?_append_left (List.getElem?_eq_some_iff.1 q1).1]
                          exact ⟨u', q1, q2.mono hle2⟩
                    · have hk := hH.kill b.block
                      obtain ⟨ρ', v', w', q1, q2, q3⟩ := grow none (fun _ h => by cases h) (H.upd b.block .dead) (some ⟨g, sh, none⟩) c' olds hk.rel rfl ho1 ho2 ho3 (by omega)
                      exact ⟨ρ', v', w', q1, q2, hk.trans q3⟩
                  · cases hv
                · rename_i c tyr hx
                  split at hv
                  · rename_i hcond
                    obtain ⟨heq, hoff⟩ := hcond
                    cases hv
                    obtain ⟨g, sh, hg, rfl⟩ := h4 hpos
                    obtain ⟨N, hN, hle⟩ := h5 i.size hry.1 hpos
                    have hb := hH.blk _ _ _ hg
                    rw [hx] at hb
                    obtain ⟨hbase, hsh, cc, fr, k1, k2, k3, k4, k5⟩ := hb
                    subst hsh
                    simp only [hoff, Nat.add_zero] at hN hle ho3 ⊢
                    rw [k4] at hN
                    cases hN
                    by_cases hroom : len + n ≤ c'
                    · have hm : (len + n) * i.size ≤ c' * i.size := Nat.mul_le_mul_right _ hroom
                      rw [Nat.add_mul] at hm
                      have hsz : ∀ j, j < new'.length → 0 + len * i.size + j < cc.size := fun j hj => by omega
                      have hrun := run_append_room_src (P := P) w st xt ty e i hu hi g 0 len c' x' n new' hsrc hroom (fun j hj => by have h9 := hsz j hj; simp [World.cell?, k1]; omega) (fun j hj => by
                        have := k2 _ (hsz j hj)
                        simp only [World.frozen?, k1, Bool.and_eq_false_iff, decide_eq_false_iff_not]
                        omega)
                      have hat := heap_setCells_at new' (0 + len * i.size) w cc k1 (by omega)
                      have hsl : (setAll cc.toList (0 + len * i.size) new').length = cc.size := by rw [setAll_length _ _ _ (by simp; omega)]; simp
                      have hn0 : ρ H.size = none := by
                        cases e : ρ H.size with
                        | none => rfl
                        | some y => have := hH.lt _ _ e; omega
                      have hle2 := Ren.le_add (g, 0) none hn0
                      have hsim := Sim.move hH hg (by rw [hx]; rfl) (w' := w.setCells g (0 + len * i.size) new') (fun k hk => World.heap_setCells_other' g _ _ w k hk) (size_setCells g _ _ w) (World.os_setCells w g _ _) (tape_setCells g _ _ w) (World.output_setCells w g _ _) (.trow (old ++ new) tyr)
                        ⟨hbase, rfl, _, fr, hat, by rw [show (Array.mk (setAll cc.toList (0 + len * i.size) new')).size = cc.size from hsl]; exact k2,
                          by rw [show (Array.mk (setAll cc.toList (0 + len * i.size) new')).size = cc.size from hsl, List.length_append, ho2, hlen]; omega,
                          by rw [show (Array.mk (setAll cc.toList (0 + len * i.size) new')).size = cc.size from hsl]; exact hle2.2 _ _ k4, ?_⟩
                      · refine ⟨_, _, _, hrun, ?_, hsim⟩
                        refine .slice (Nat.le_refl _) hroom (fun h => by simp [roomy, isExact] at h) (fun _ => ⟨g, 0, Ren.add_same _ _ _ _, rfl⟩) (fun k hk _ => ⟨cc.size, hle2.2 _ _ k4, ?_⟩)
                        have h := isRoomy_iff.1 hk
                        simp only [roomy, Option.some.injEq, Nat.add_right_cancel_iff] at h
                        subst h
                        exact hle
                      · intro j u hj
                        suffices hq : ∃ v', (setAll cc.toList (0 + len * i.size) new')[0 + j]? = some v' ∧ VRel (ρ.add H.size (g, 0) none) u v' by simpa using hq
                        rw [setAll_spec _ _ _ (by simp; omega)]
                        have et : (cc.toList.take (0 + len * i.size)).length = 0 + len * i.size := by simp; omega
                        rcases Nat.lt_or_ge j (len * i.size) with hj1 | hj1
                        · rw [List.getElem?_append_left (by omega)] at hj
                          rw [List.append_assoc, List.getElem?_append_left (by omega), List.getElem?_take_of_lt (by omega)]
                          /- the old cells -/
                          simp only [oldCells] at hold
                          split at hold
                          · rename_i hl0; subst hl0; simp at hj1
                          · simp only [Hp.cells?, hx, hoff, Nat.zero_add, List.drop_zero] at hold
                            split at hold
                            · cases hold
                              rw [List.getElem?_take_of_lt hj1] at hj
                              obtain ⟨u', q1, q2⟩ := k5 j u hj
                              exact ⟨u', by simpa using q1, q2.mono hle2⟩
                            · cases hold
                        · rw [List.getElem?_append_right (by omega), ho2] at hj
                          rw [List.append_assoc, List.getElem?_append_right (by omega), et, show 0 + j - (0 + len * i.size) = j - len * i.size from by omega]
                          obtain ⟨u', q1, q2⟩ := hnew.get hj
                          rw [List.getElem?_append_left (List.getElem?_eq_some_iff.1 q1).1]
                          exact ⟨u', q1, q2.mono hle2⟩
                    · have hk := hH.kill b.block
                      obtain ⟨ρ', v', w', q1, q2, q3⟩ := grow (some tyr) (fun u h => heo u (heq.trans h)) (H.upd b.block .dead) (some ⟨g, 0, none⟩) c' olds hk.rel rfl ho1 ho2 ho3 (by omega)
                      exact ⟨ρ', v', w', q1, q2, hk.trans q3⟩
                  · cases hv
                · cases hv
              · cases hv
  | _ => simp [appendTo] at hv

end
end Go.Proofs.YtjmohjemgohlpaaGreatDoor.Am

/- The abstract machine: all operations on memory. -/
namespace Go.Proofs.YtjmohjemgohlpaaGreatDoor.Am
open Go

section
variable {P : Program} {okx : Operand → Bool} {base : Nat} {ρ : Ren} {F : Fr} {a : Act} {o : Oper} {v : Value} {H H' : Hp} {w : World}

theorem does_append {c : Call} {x y : Operand} {st xt : TypeId} (ho : o.op = .call c) (hb : c.callee = .builtin .append) (ha : c.args.toList = [x, y]) (ht : c.argTypes.toList = [st, xt])
    (h : ∃ ρ' v' w', (Builtin.append_ #[st, xt] o.type #[a.eval x, a.eval y]).run P w = .ok v' w' ∧ VRel ρ' v v' ∧ Sim P base ρ H w ρ' H' w') : Does P base ρ H a o v H' w := by
  obtain ⟨ρ', v', w', h1, h2, h3⟩ := h
  refine ⟨ρ', .value v', w', ?_, h2, h3⟩
  have ea := args_two ha
  have et : c.argTypes = #[st, xt] := Array.toList_inj.1 ht
  have hx : (execOp a.eval o) = (do let d ← resolve a.eval c o.type; invoke d.target d.args) := by simp [execOp, ho]
  rw [hx]
  simp [resolve, hb, invoke, builtin, et, ea, h1]

theorem does_app (hH : HRel P base ρ H w) (he : EvR okx ρ F a) {c : Call} {x y : Operand} {st xt e e' : TypeId} {i : TypeInfo} {z : Value} (hx : okx x = true) (hy : okx y = true) (ho : o.op = .call c) (hb : c.callee = .builtin .append)
    (ha : c.args.toList = [x, y]) (ht : c.argTypes.toList = [st, xt]) (hu : P.underlying st = some (.slice e)) (hk : P.underlying xt = some (.slice e')) (hi : P.info? e = some i) (hz : tyZero P e = some z) (hb0 : i.bytes ≠ 0) (hzs : z.cells.size = i.size)
    {eo : Option TypeId} (heo : ∀ u, eo = some u → u = e) (hv : memOp F H (.app i.size i.bytes eo x y) = some (v, H')) : Does P base ρ H a o v H' w := by
  have h1 := he x hx
  have h2 := he y hy
  refine does_append ho hb ha ht ?_
  simp only [memOp] at hv
  split at hv
  · rename_i n cp hy0
    rw [hy0] at h2
    split at hv
    · rename_i h0
      subst h0
      rw [h2.inv_snil]
      exact appendTo_sim hH hu hi hz hzs heo h1 (n := 0) (VsRel.nil _) (by simp) (fun u hu => by simp at hu) (Src.ofNil w hk cp) hb0 hv
    · cases hv
  · rename_i b n cp hy0
    rw [hy0] at h2
    obtain ⟨b', c', e1, hnc, hcc, _, hadr, _⟩ := h2.inv_slice
    rw [e1]
    split at hv
    · rename_i h0
      subst h0
      exact appendTo_sim hH hu hi hz hzs heo h1 (n := 0) (VsRel.nil _) (by simp) (fun u hu => by simp at hu) (Src.ofSlice w hk b' 0 c' [] (by simp) (fun j u h => by simp at h) (fun u hu => by simp at hu)) hb0 hv
    · rename_i h0
      obtain ⟨g, sh, hg, rfl⟩ := hadr (by omega)
      simp only [Option.bind_eq_some_iff] at hv
      obtain ⟨new, hnew, hv⟩ := hv
      split at hv
      · rename_i hall
        obtain ⟨cs', k1, k2, k3⟩ := hH.cells hnew hg
        have hone := oneCells k1 hall
        refine appendTo_sim hH hu hi hz hzs heo h1 k1 (by rw [k1.1, k2]) hone (Src.ofSlice w hk _ n c' cs' k2 (fun j u hj => ?_) hone) hb0 hv
        rw [Addr.add_lit]
        exact k3 j u hj
      · cases hv
  · cases hv

theorem does_aps (hH : HRel P base ρ H w) (he : EvR okx ρ F a) {c : Call} {x y : Operand} {st xt e : TypeId} {i : TypeInfo} {z : Value} (hx : okx x = true) (hy : okx y = true) (ho : o.op = .call c) (hb : c.callee = .builtin .append)
    (ha : c.args.toList = [x, y]) (ht : c.argTypes.toList = [st, xt]) (hu : P.underlying st = some (.slice e)) (hk : P.underlying xt = some .string) (hi : P.info? e = some i) (hz : tyZero P e = some z) (h1s : i.size = 1 ∧ i.bytes = 1) (hzs : z.cells.size = i.size)
    {eo : Option TypeId} (heo : ∀ u, eo = some u → u = e) (hv : memOp F H (.aps eo x y) = some (v, H')) : Does P base ρ H a o v H' w := by
  have h1 := he x hx
  have h2 := he y hy
  refine does_append ho hb ha ht ?_
  simp only [memOp] at hv
  split at hv
  · rename_i str hy0
    rw [hy0] at h2
    rw [h2.string]
    rw [← h1s.1] at hv
    have hv' : appendTo H i.size i.bytes eo (F.eval x) str.size (str.data.toList.map fun b => .int .u8 b.toNat) = some (v, H') := by
      rw [h1s.2]; rw [h1s.1] at hv ⊢; exact hv
    have hfl : ∀ u ∈ (str.data.toList.map fun b => Value.int .u8 b.toNat), flat0 u = true ∧ u.oneCell' = true := by
      intro u hu
      simp only [List.mem_map] at hu
      obtain ⟨b, _, rfl⟩ := hu
      exact ⟨rfl, rfl⟩
    have hsrc := Src.ofString (P := P) w hk str
    rw [← h1s.1] at hsrc
    exact appendTo_sim hH hu hi hz hzs heo h1 (VsRel.of_flat fun u hu => (hfl u hu).1) (by simp [h1s.1]) (fun u hu => (hfl u hu).2) hsrc (by omega) hv'
  · cases hv

theorem does_apz (hH : HRel P base ρ H w) (he : EvR okx ρ F a) {c : Call} {x y : Operand} {st xt e : TypeId} {kn : IntKind} {i : TypeInfo} {z : Value} (hx : okx x = true) (hy : okx y = true) (ho : o.op = .call c) (hb : c.callee = .builtin .append)
    (ha : c.args.toList = [x, y]) (ht : c.argTypes.toList = [st, xt]) (hu : P.underlying st = some (.slice e)) (hk : P.underlying xt = some (.int kn)) (hi : P.info? e = some i) (hz : tyZero P e = some z) (hs0 : i.size ≠ 0) (hzs : z.cells.size = i.size)
    (hv : memOp F H (.apz i.bytes z.cells.toList x y) = some (v, H')) : Does P base ρ H a o v H' w := by
  have h1 := he x hx
  have h2 := he y hy
  refine does_append ho hb ha ht ?_
  obtain ⟨zf, hzt, i', hi', hz'⟩ := tyZero_spec hz
  rw [hi] at hi'; cases hi'
  simp only [memOp] at hv
  split at hv
  · rename_i k n hx0 hy0
    rw [hx0] at h1; rw [hy0] at h2
    rw [h1.inv_snil, h2.int]
    split at hv
    · rename_i hc
      simp only [Option.some.injEq, Prod.mk.injEq] at hv
      obtain ⟨rfl, rfl⟩ := hv
      obtain ⟨m, rfl⟩ : ∃ m : Nat, n = m := ⟨n.toNat, by omega⟩
      simp only [Int.toNat_natCast] at hc ⊢
      have h3 : m * i.bytes ≤ 2 ^ 30 * 2 ^ 10 := Nat.mul_le_mul (by omega) hc.2.2
      have hrun := Go.Lib.run_append_nil_zeros (P := P) w st xt o.type e i z k kn hu hk hi hz' m (by omega) (by omega) (by omega) (by omega)
      have hgc := grownCap_ge w m 0 e
      have hcc : (Builtin.zeroCells z.cells m ++ Builtin.zeroCells z.cells (grownCap w m 0 e - m)).toList = zeroCells z.cells.toList m ++ zeroCells z.cells.toList (grownCap w m 0 e - m) := by
        simp [builtinZero_eq]
      have hsize : (Builtin.zeroCells z.cells m ++ Builtin.zeroCells z.cells (grownCap w m 0 e - m)).size = grownCap w m 0 e * i.size := by
        rw [← Array.length_toList, hcc]
        simp only [List.length_append, zeroCells_length, Array.length_toList, hzs, ← Nat.add_mul]
        congr 1
        omega
      have hzl : z.cells.toList.length = i.size := by simpa using hzs
      obtain ⟨ρ', h4, h5⟩ := roomy_row (eo := none) hH (VsRel.of_flat (flat_zeroCells (flat_cells zf hzt) m)) e (fun _ h => by cases h) (0, 0) hcc (okFrozen_zero _) rfl (n := m) (cap := grownCap w m 0 e) (size := i.size) hgc (by omega)
      rw [hzl]
      exact ⟨ρ', _, _, hrun, h4, h5⟩
    · cases hv
  · cases hv

theorem mem_sim (hH : HRel P base ρ H w) (he : EvR okx ρ F a) (hok : ∀ x ∈ o.op.operands, okx x = true) {c : COp} (hc : compOp P o = some c) (hv : memOp F H c = some (v, H')) : Does P base ρ H a o v H' w := by
  unfold compOp at hc
  split at hc
  · rename_i hops
    clear hops
    unfold compOp1 at hc
    split at hc
    · cases hc; simp [memOp] at hv
    · cases hc; simp [memOp] at hv
    · cases hc; simp [memOp] at hv
    · rename_i t ho
      simp only [Option.map_eq_some_iff] at hc; obtain ⟨z, hz, rfl⟩ := hc
      split at hv
      · exact does_newt hH ho hz hv
      · exact does_newz hH ho hz hv
    · rename_i t x ho; cases hc; exact does_box hH he (hok x (by simp [ho, Op.operands])) ho hv
    · split at hc
      · split at hc
        · simp only [Option.map_eq_some_iff] at hc
          obtain ⟨qs, hqs, rfl⟩ := hc
          simp [memOp] at hv
        · cases hc
      · split at hc
        · simp only [Option.map_eq_some_iff] at hc
          obtain ⟨qs, hqs, rfl⟩ := hc
          simp [memOp] at hv
        · cases hc
      · cases hc
    · rename_i t n ps ho
      have hops : ∀ x ∈ ps.toList, okx x.2 = true := fun x hx => hok x.2 (by
        rw [ho]
        simp only [Op.operands, List.mem_toArray, List.mem_map]
        exact ⟨x, hx, rfl⟩)
      split at hc
      · rename_i e hu
        split at hc
        · rename_i s z hs hz
          split at hc
          · rename_i hcond
            simp only [Option.map_eq_some_iff] at hc; obtain ⟨qs, hqs, rfl⟩ := hc
            exact does_lits hH he hops ho hu hs hz hcond.1 hcond.2.1 hcond.2.2 hqs hv
          · cases hc
        · cases hc
      · cases hc
    · rename_i t x ho
      split at hc
      · rename_i n ht hs; cases hc; exact does_ld hH he (hok x (by simp [ho, Op.operands])) ho ht hs hv
      · rename_i n ht hs; cases hc; exact does_ld1 hH he (hok x (by simp [ho, Op.operands])) ho ht hv
      · cases hc
    · rename_i t x y ho
      simp only [Option.map_eq_some_iff] at hc; obtain ⟨n, hs, rfl⟩ := hc
      exact does_st hH he (hok x (by simp [ho, Op.operands])) (hok y (by simp [ho, Op.operands])) ho hs hv
    · cases hc; simp [memOp] at hv
    · unfold compBin at hc
      repeat' (first | (split at hc) | (unfold compEq at hc))
      all_goals first | (cases hc; simp [memOp] at hv; done) | cases hc
    · cases hc; simp [memOp] at hv
    · rename_i s d x ho
      unfold compConv at hc
      split at hc
      · cases hc; simp [memOp] at hv
      · cases hc; simp [memOp] at hv
      · rename_i e hs hd
        split at hc
        · rename_i hu; cases hc; exact does_cvb hH he (hok x (by simp [ho, Op.operands])) ho hs hd hu hv
        · cases hc
      · rename_i e hs hd
        split at hc
        · rename_i hu; cases hc; exact does_cvt hH he (hok x (by simp [ho, Op.operands])) ho hs hd hu hv
        · cases hc
      · rename_i t hs hd
        split at hc
        · rename_i j hj
          split at hc
          · cases hc
          · rename_i hn
            cases hc
            exact does_tou hH he (hok x (by simp [ho, Op.operands])) ho hs hd hj hn hv
        · cases hc
      · rename_i u hs hd
        split at hc
        · rename_i j hj
          split at hc
          · cases hc
          · rename_i hn
            cases hc
            exact does_fru hH he (hok x (by simp [ho, Op.operands])) ho hs hd hj hn hv
        · cases hc
      · cases hc
    · split at hc
      · cases hc
      · cases hc; simp [memOp] at hv
      · cases hc
    · cases hc; simp [memOp] at hv
    · rename_i t ho; cases hc; exact does_mkm hH ho hv
    · rename_i t x y ho
      split at hc
      · rename_i e hu
        split at hc
        · rename_i i z hi hz
          split at hc
          · rename_i hcond
            cases hc
            exact does_mks hH he (hok x (by simp [ho, Op.operands])) (hok y (by simp [ho, Op.operands])) ho hu hi hz hcond.1 hv
          · cases hc
        · cases hc
      · cases hc
    · unfold compSlice at hc
      split at hc
      · split at hc
        · cases hc
        · cases hc; simp [memOp] at hv
      · simp only [Option.map_eq_some_iff] at hc; obtain ⟨s, hs, rfl⟩ := hc; simp [memOp] at hv
      · simp only [Option.map_eq_some_iff] at hc; obtain ⟨s, hs, rfl⟩ := hc; simp [memOp] at hv
      · cases hc
    · split at hc
      · split at hc
        · cases hc
        · cases hc; simp [memOp] at hv
      · cases hc
    · split at hc
      · split at hc
        · cases hc; simp [memOp] at hv
        · cases hc; simp [memOp] at hv
      · cases hc
    · split at hc
      · simp only [Option.map_eq_some_iff] at hc; obtain ⟨s, hs, rfl⟩ := hc; simp [memOp] at hv
      · simp only [Option.map_eq_some_iff] at hc; obtain ⟨s, hs, rfl⟩ := hc; simp [memOp] at hv
      · cases hc
    · split at hc
      · cases hc; simp [memOp] at hv
      · split at hc
        · cases hc; simp [memOp] at hv
        · cases hc; simp [memOp] at hv
        · cases hc
      · cases hc
    · rename_i t m k ok ho
      split at hc
      · rename_i kt et hu
        split at hc
        · rename_i kd z hd hz
          split at hc
          · rename_i hp
            cases hc
            exact does_lkp hH he (hok m (by simp [ho, Op.operands])) (hok k (by simp [ho, Op.operands])) ho hu hd hz hp hv
          · cases hc
        · cases hc
      · cases hc
    · rename_i t m k u ho
      split at hc
      · rename_i kt et hu
        split at hc
        · rename_i kd hd
          split at hc
          · rename_i hp
            cases hc
            exact does_mup hH he (hok m (by simp [ho, Op.operands])) (hok k (by simp [ho, Op.operands])) (hok u (by simp [ho, Op.operands])) (by simp only [execOp, ho]) hu hd hp hv
          · cases hc
        · cases hc
      · cases hc
    · rename_i t m k u ho
      split at hc
      · rename_i kt et hu
        split at hc
        · rename_i kd hd
          split at hc
          · rename_i hp
            cases hc
            exact does_mup hH he (hok m (by simp [ho, Op.operands])) (hok k (by simp [ho, Op.operands])) (hok u (by simp [ho, Op.operands])) (by simp only [execOp, ho]) hu hd hp hv
          · cases hc
        · cases hc
      · cases hc
    · rename_i t x ho
      split at hc
      · rename_i hu; cases hc; exact does_itr hH he (hok x (by simp [ho, Op.operands])) ho hu hv
      · cases hc
    · rename_i x ho; cases hc; exact does_nxt hH he (hok x (by simp [ho, Op.operands])) ho hv
    · cases hc; simp [memOp] at hv
    · rename_i c' ho
      have hcops : ∀ x ∈ c'.args, okx x = true := fun x hx => hok x (by simp [ho, Op.operands, Call.operands, hx])
      unfold compCall at hc
      split at hc
      · cases hc; simp [memOp] at hv
      · cases hc
      · rename_i b hb
        split at hc
        · rename_i x y st xt h1 h2
          have hx := hcops x (by rw [args_two h1]; simp)
          have hy := hcops y (by rw [args_two h1]; simp)
          unfold compApp at hc
          split at hc
          · rename_i e hu
            split at hc
            · rename_i i hi
              split at hc
              · rename_i z hz
                split at hc
                · cases hc
                · rename_i hcond
                  simp only [not_or, ne_eq, Decidable.not_not] at hcond
                  obtain ⟨hb0, hs0, hzs⟩ := hcond
                  split at hc
                  · rename_i e' hk; cases hc; exact does_app hH he hx hy ho hb h1 h2 hu hk hi hz hb0 hzs (fun u h => by split at h <;> simp_all) hv
                  · rename_i hk
                    split at hc
                    · rename_i h1s; cases hc; exact does_aps hH he hx hy ho hb h1 h2 hu hk hi hz h1s hzs (fun u h => by simp_all) hv
                    · cases hc
                  · rename_i kn hk; cases hc; exact does_apz hH he hx hy ho hb h1 h2 hu hk hi hz hs0 hzs hv
                  · cases hc
              · cases hc
            · cases hc
          · cases hc
        · rename_i x t h1 h2
          unfold compLen at hc
          split at hc
          · cases hc; simp [memOp] at hv
          · cases hc; simp [memOp] at hv
          · cases hc; simp [memOp] at hv
          · rename_i kt et hu; cases hc; exact does_lnm hH he (hcops x (by rw [args_one h1]; simp)) ho hb h1 h2 hu hv
          · cases hc
        · split at hc
          · cases hc; simp [memOp] at hv
          · cases hc
        · cases hc; simp [memOp] at hv
        · cases hc; simp [memOp] at hv
        · cases hc; simp [memOp] at hv
        · rename_i x n pt it h1 h2
          split at hc
          · rename_i e hu
            split at hc
            · rename_i hce
              cases hc
              exact does_ust hH he (hcops x (by rw [args_two h1]; simp)) (hcops n (by rw [args_two h1]; simp)) ho hb h1 h2 hu hce hv
            · cases hc
          · cases hc
        · cases hc
    · cases hc
  · cases hc

end
end Go.Proofs.YtjmohjemgohlpaaGreatDoor.Am
