/- What the functions of the program come to, one for one, from any memory. By an AI agent. No person has read it. -/
import Derived.Test.YtfonnebpnobomaaDoorWa
import GoSem.PinnedTables
import Derived.Lib.Strings
import Derived.Lib.SlTrimSet
import Derived.ChangeArms
import Derived.WideKeyArgs
import Derived.Lib.LaidTab
import Derived.OpenShut
namespace Go.Proofs.YtfonnebpnobomaaDoor.W
open Go Am code
set_option maxRecDepth 100000
set_option maxHeartbeats 4000000
set_option linter.unusedSimpArgs false
set_option linter.unusedVariables false
variable {E : Env} (hE : Has E)
variable (symB : ByteArray → Bool)

/-- an argument: a slice of nodes -/
structure ArgIs (H : Hp) (sv : Value) (t : List Node) : Prop where
  is : ∃ ob cap, sv = .slice ob t.length cap ∧ t.length ≤ cap ∧ SlE H 6 ob (t.map Node.cells)
  ok : TermOK t
/-- the arguments of a primitive -/
structure ArgsIs (H : Hp) (oa : Option Addr) (svs : List Value) (ts : List (List Node)) : Prop where
  sl : SlE H 1 oa (svs.map fun v => [v])
  len : svs.length = ts.length
  each : ∀ (i : Nat) sv t, svs[i]? = some sv → ts[i]? = some t → ArgIs H sv t
theorem ArgIs.mono {H H1 : Hp} {sv : Value} {t : List Node} {M : Ms} (h : ArgIs H sv t) (h1 : St H [] H1 M) : ArgIs H1 sv t := by
  obtain ⟨ob, cap, e, g1, g2⟩ := h.is
  exact ⟨⟨ob, cap, e, g1, g2.mono h1 (fun _ _ => by simp)⟩, h.ok⟩
theorem ArgsIs.mono {H H1 : Hp} {oa : Option Addr} {svs : List Value} {ts : List (List Node)} {M : Ms} (h : ArgsIs H oa svs ts) (h1 : St H [] H1 M) : ArgsIs H1 oa svs ts :=
  ⟨h.sl.mono h1 (fun _ _ => by simp), h.len, fun i sv t a b => (h.each i sv t a b).mono h1⟩
theorem ArgsIs.at {H : Hp} {oa : Option Addr} {svs : List Value} {ts : List (List Node)} (h : ArgsIs H oa svs ts) {i : Nat} {t : List Node} (hi : ts[i]? = some t) : ∃ ob cap, oa.isSome = true ∧ (adr oa 1 i).block < H.size ∧ i < svs.length ∧ H.cell? (adr oa 1 i) = some (.slice ob t.length cap) ∧ t.length ≤ cap ∧ SlE H 6 ob (t.map Node.cells) ∧ TermOK t := by
  have hl : i < ts.length := (List.getElem?_eq_some_iff.1 hi).1
  have hl2 : i < svs.length := by rw [h.len]; exact hl
  have ha := h.each i svs[i] t (List.getElem?_eq_getElem hl2) hi
  obtain ⟨ob, cap, e, g1, g2⟩ := ha.is
  have hm : i < (svs.map fun v => [v]).length := by simpa using hl2
  have hg := h.sl.get hm
  have hc := h.sl.cell (i := i) (j := 0) (v := svs[i]) hm (by simp)
  rw [e] at hc
  exact ⟨ob, cap, hg.1, hg.2.1, hl2, hc, g1, g2, ha.ok⟩
def partT (t : List Node) (second : Bool) : List Node := if second then t.drop (1 + (subR symB t 1).1.length) else (subR symB t 1).1
def partR (t : List Node) (second : Bool) : List Node × Int × Int := match t[0]? with
  | some x => if x.kind ≠ 5 then ([], 0, 19) else (partT symB t second, 0, 0)
  | none => ([], 0, 0)
theorem newL_len {w : Value} {t : List Node} {M : Ms} (h : NewL w t M) : ∃ ob cap, w = .slice ob t.length cap := by
  rcases h with ⟨rfl, rfl⟩ | ⟨b, sp, cap, row, rfl, _⟩
  · exact ⟨none, 0, rfl⟩
  · exact ⟨_, cap, rfl⟩

include hE in
theorem part_spec {t : List Node} (hp : 0 < t.length) (hbig : t.length ≤ 1000000) (hsub1 : 1 + (subR symB t 1).1.length ≤ t.length) (a b : Int) (second : Bool) (H : Hp) (hsym : SymsOK E symB t H) (oa : Option Addr) (na ca : Nat) (hna : 0 < na) (svs : List Value) (ts : List (List Node)) (hargs : ArgsIs H oa svs ts) (h0 : ts[0]? = some t) : Sc E 38 [.agg ⟨[.slice oa na ca, I64 a, I64 b]⟩, .bool second] H [] fun v M => ResIs v (partR symB t second) M := by
  obtain ⟨ob, cap, g1, g2, g3, g4, hcap, hsl, ht⟩ := hargs.at h0
  have hg := hsl.get (i := 0) (by simpa using hp)
  have hcell : H.cell? ⟨(adr ob 6 0).block, (adr ob 6 0).off + 0, none⟩ = some (I64 t[0].kind) := hsl.cell (i := 0) (j := 0) (by simpa using hp) (by simp [Node.cells])
  obtain ⟨a0, rfl⟩ : ∃ a0, ob = some a0 := Option.isSome_iff_exists.1 hg.1
  refine sc_body hE.h38 rfl ?_
  show Ss E _ _ _ c38.body _ _ _
  unfold c38
  refine s_seq ?_
  refine s_ops ?_
  refine o_box (c := [.slice oa na ca, I64 a, I64 b]) rfl rfl rfl (fun b0 => ?_)
  refine o_newz rfl (fun b1 => ?_)
  refine o_nil ?_
  refine sSeq_normal ?_
  refine s_seq ?_
  refine s_ops ?_
  refine o_fad rfl rfl ?_
  refine o_ld1 rfl (by first | exact .head _ | exact .tail _ (.head _) | exact .tail _ (.tail _ (.head _)) | exact .tail _ (.tail _ (.tail _ (.head _))) | exact .tail _ (.tail _ (.tail _ (.tail _ (.head _))))) rfl rfl ?_
  refine o_iad (i := 0) rfl rfl hna g1 rfl ?_
  refine o_ld1_old rfl g2 (by simp) g4 rfl ?_
  refine o_mov rfl rfl ?_
  refine o_nil ?_
  refine sSeq_normal ?_
  refine s_seq ?_
  refine s_seq ?_
  refine s_ops ?_
  refine o_mov rfl rfl ?_
  refine o_iad (i := 0) rfl rfl hp rfl rfl ?_
  refine o_fad rfl rfl ?_
  refine o_ld1_old rfl hg.2.1 (by simp) hcell rfl ?_
  refine o_bin rfl rfl rfl rfl ?_
  refine o_nil ?_
  refine sSeq_normal ?_
  refine s_cond rfl (fun hc0 => ?_) (fun hc0 => ?_)
  · have hk : t[0].kind ≠ 5 := by simpa using hc0
    have hres : partR symB t second = ([], 0, 19) := by unfold partR; rw [List.getElem?_eq_getElem hp]; exact if_pos hk
    refine s_seq ?_
    refine s_ops ?_
    refine o_agg (c := [.slice none 0 0, I64 0, I64 19]) (fun F hF => rfl) rfl ?_
    refine o_stN (M1 := []) (cn := [.slice none 0 0, I64 0, I64 19]) rfl rfl rfl rfl (by show 0 + 3 ≤ 3; exact Nat.le_refl _) rfl rfl ?_
    refine o_nil ?_
    refine sSeq_normal ?_
    refine s_ret ?_
    refine sSeq_ret ?_
    first | refine sRet_ret [_] ⟨⟨_, _, _, rfl, .head _, Nat.le_of_ble_eq_true rfl, rfl⟩, trivial⟩ ?_ | refine sRet_ret [_] ⟨⟨_, _, _, rfl, List.mem_append_right _ (.head _), Nat.le_refl _, rfl⟩, trivial⟩ ?_
    rw [hres]
    first | exact ⟨_, rfl, .inl ⟨rfl, rfl⟩⟩ | exact ⟨rv, rfl, hnew.mono (fun x hx => List.mem_append_left _ hx)⟩
  · have hk : ¬ t[0].kind ≠ 5 := by simpa using hc0
    have hres : partR symB t second = (partT symB t second, 0, 0) := by unfold partR; rw [List.getElem?_eq_getElem hp]; exact if_neg hk
    refine s_skip ?_
    refine sSeq_normal ?_
    refine s_seq ?_
    refine s_ops ?_
    refine o_mov rfl rfl ?_
    refine o_call1 rfl (ha2 rfl rfl) rfl (fun H1 hH1 => (Sub_spec hE symB ht 1 H1 (hsym.mono hH1) (some a0) cap hcap (hsl.mono hH1 (fun _ _ h => (by cases h)))).mono ?_)
    rintro v M1 ⟨w, rfl, hw⟩
    obtain ⟨ow, cw, hwe⟩ := newL_len hw
    refine o_mov rfl rfl ?_
    refine o_ext rfl rfl rfl ?_
    refine o_ext rfl rfl rfl ?_
    refine o_mov rfl rfl ?_
    refine o_mov rfl rfl ?_
    refine o_nil ?_
    refine sSeq_normal ?_
    refine s_mid (α := Value × Ms) (fun z => [(4, .pointer (some ⟨b1, 0, none⟩)), (6, z.1)]) (fun z => z.2 ++ [(b1, .row [.slice none 0 0, I64 0, I64 0] true), (b0, .row [.slice oa na ca, I64 a, I64 b] true)]) (fun z => NewL z.1 (partT symB t second) z.2) ?_ ?_
    · skip
      refine s_seq ?_
      refine s_ops ?_
      refine o_mov rfl rfl ?_
      refine o_nil ?_
      refine sSeq_normal ?_
      refine s_cond rfl (fun hc1 => ?_) (fun hc1 => ?_)
      · have hs : second = true := hc1
        rw [hwe]
        refine s_ops ?_
        refine o_mov rfl rfl ?_
        refine o_mov rfl rfl ?_
        refine o_lnl rfl rfl ?_
        refine o_bin (v := I64 (1 + (subR symB t 1).1.length : Nat)) rfl rfl (by simp only [binV, binInt, if_true]; rw [wrap64 (by omega) (by omega), Int.natCast_add]; rfl) rfl ?_
        refine o_slFrom rfl rfl hsub1 hcap rfl ?_
        refine o_call1 rfl (ha1 rfl) rfl (fun H1 hH1 => ?_)
        have hsb := hsl.sub (l := 1 + (subR symB t 1).1.length) (m := t.length) (cap := cap) hsub1 (by rw [List.length_map]; exact Nat.le_refl _) (by rw [List.length_map]; exact hcap)
        have he : ((t.map Node.cells).drop (1 + (subR symB t 1).1.length)).take (t.length - (1 + (subR symB t 1).1.length)) = (t.drop (1 + (subR symB t 1).1.length)).map Node.cells := by
          rw [← List.map_drop, List.take_of_length_le (by rw [List.length_map, List.length_drop]; exact Nat.le_refl _)]
        rw [he] at hsb
        have := clone_spec hE (t.drop (1 + (subR symB t 1).1.length)) (by rw [List.length_drop]; omega) H1 _ (cap - (1 + (subR symB t 1).1.length)) (hsb.mono hH1 (fun _ _ h => (by cases h)))
        rw [List.length_drop] at this
        refine this.mono ?_
        rintro v M2 hnew
        refine o_mov rfl rfl ?_
        refine o_nil ?_
        first | exact sMid_normal (_, M2 ++ M1) (subCons rfl (subCons rfl subNil)) (by rw [List.append_assoc]; exact .refl _) (by subst hs; exact hnew.mono (fun x hx => List.mem_append_left _ hx)) | exact sMid_normal (w, M1) (subCons rfl (subCons rfl subNil)) (.refl _) (by subst hs; exact hw)
      · have hs : second = false := hc1
        refine s_skip ?_
        first | exact sMid_normal (_, M2 ++ M1) (subCons rfl (subCons rfl subNil)) (by rw [List.append_assoc]; exact .refl _) (by subst hs; exact hnew.mono (fun x hx => List.mem_append_left _ hx)) | exact sMid_normal (w, M1) (subCons rfl (subCons rfl subNil)) (.refl _) (by subst hs; exact hw)
    · rintro ⟨rv, Mn⟩ hnew
      dsimp only at hnew ⊢
      refine s_seq ?_
      refine s_ops ?_
      refine o_mov rfl rfl ?_
      refine o_agg (c := [rv, I64 0, I64 0]) (fun F hF => by simp only [List.map, hF.ev (x := .tmp 30) rfl]; rcases hnew with ⟨h, _⟩ | ⟨_, _, _, _, h, _⟩ <;> rw [h] <;> rfl) rfl ?_
      refine o_stN (M1 := Mn) (M2 := [(b0, .row [.slice oa na ca, I64 a, I64 b] true)]) (cn := [rv, I64 0, I64 0]) rfl rfl rfl rfl (by show 0 + 3 ≤ 3; exact Nat.le_refl _) (by rcases hnew with ⟨h, _⟩ | ⟨_, _, _, _, h, _⟩ <;> rw [h] <;> rfl) rfl ?_
      refine o_nil ?_
      refine sSeq_normal ?_
      refine s_ret ?_
      first | refine sRet_ret [_] ⟨⟨_, _, _, rfl, .head _, Nat.le_of_ble_eq_true rfl, rfl⟩, trivial⟩ ?_ | refine sRet_ret [_] ⟨⟨_, _, _, rfl, List.mem_append_right _ (.head _), Nat.le_refl _, rfl⟩, trivial⟩ ?_
      rw [hres]
      first | exact ⟨_, rfl, .inl ⟨rfl, rfl⟩⟩ | exact ⟨rv, rfl, hnew.mono (fun x hx => List.mem_append_left _ hx)⟩

end Go.Proofs.YtfonnebpnobomaaDoor.W
namespace Go.Proofs.YtfonnebpnobomaaDoor.W
open Go Am code
set_option maxRecDepth 100000
set_option maxHeartbeats 4000000
set_option linter.unusedSimpArgs false
set_option linter.unusedVariables false
variable {E : Env} (hE : Has E)
variable (symB : ByteArray → Bool)
include hE in
theorem opCar_spec {t : List Node} (hp : 0 < t.length) (hbig : t.length ≤ 1000000) (hsub1 : 1 + (subR symB t 1).1.length ≤ t.length) (a b : Int) (H : Hp) (hsym : SymsOK E symB t H) (oa : Option Addr) (na ca : Nat) (hna : 0 < na) (svs : List Value) (ts : List (List Node)) (hargs : ArgsIs H oa svs ts) (h0 : ts[0]? = some t) : Sc E 37 [.agg ⟨[.slice oa na ca, I64 a, I64 b]⟩] H [] fun v M => ResIs v (partR symB t false) M := by
  refine sc_body hE.h37 rfl ?_
  show Ss E _ _ _ c37.body _ _ _
  unfold c37
  refine s_seq ?_
  refine s_ops ?_
  refine o_box (c := [.slice oa na ca, I64 a, I64 b]) rfl rfl rfl (fun b0 => ?_)
  refine o_newz rfl (fun b1 => ?_)
  refine o_nil ?_
  refine sSeq_normal ?_
  refine s_seq ?_
  refine s_ops ?_
  refine o_ld (own := true) (c := [.slice oa na ca, I64 a, I64 b]) rfl (.tail _ (.head _)) (by show 0 + 3 ≤ 3; exact Nat.le_refl _) rfl ?_
  refine o_call1 rfl (ha2 rfl rfl) rfl (fun H1 hH1 => (part_spec hE symB hp hbig hsub1 a b false H1 (hsym.mono hH1) oa na ca hna svs ts (hargs.mono hH1) h0).mono ?_)
  rintro v M1 ⟨rv, rfl, hnew⟩
  refine o_stN (M1 := M1) (M2 := [(b0, .row [.slice oa na ca, I64 a, I64 b] true)]) (cn := [rv, I64 (partR symB t false).2.1, I64 (partR symB t false).2.2]) rfl rfl rfl rfl (by show 0 + 3 ≤ 3; exact Nat.le_refl _) (by rcases hnew with ⟨h, _⟩ | ⟨_, _, _, _, h, _⟩ <;> rw [h] <;> rfl) rfl ?_
  refine o_nil ?_
  refine sSeq_normal ?_
  refine s_ret ?_
  refine sRet_ret [_] ⟨⟨_, _, _, rfl, List.mem_append_right _ (.head _), Nat.le_refl _, rfl⟩, trivial⟩ ?_
  exact ⟨rv, rfl, hnew.mono (fun x hx => List.mem_append_left _ hx)⟩

include hE in
theorem opCdr_spec {t : List Node} (hp : 0 < t.length) (hbig : t.length ≤ 1000000) (hsub1 : 1 + (subR symB t 1).1.length ≤ t.length) (a b : Int) (H : Hp) (hsym : SymsOK E symB t H) (oa : Option Addr) (na ca : Nat) (hna : 0 < na) (svs : List Value) (ts : List (List Node)) (hargs : ArgsIs H oa svs ts) (h0 : ts[0]? = some t) : Sc E 39 [.agg ⟨[.slice oa na ca, I64 a, I64 b]⟩] H [] fun v M => ResIs v (partR symB t true) M := by
  refine sc_body hE.h39 rfl ?_
  show Ss E _ _ _ c39.body _ _ _
  unfold c39
  refine s_seq ?_
  refine s_ops ?_
  refine o_box (c := [.slice oa na ca, I64 a, I64 b]) rfl rfl rfl (fun b0 => ?_)
  refine o_newz rfl (fun b1 => ?_)
  refine o_nil ?_
  refine sSeq_normal ?_
  refine s_seq ?_
  refine s_ops ?_
  refine o_ld (own := true) (c := [.slice oa na ca, I64 a, I64 b]) rfl (.tail _ (.head _)) (by show 0 + 3 ≤ 3; exact Nat.le_refl _) rfl ?_
  refine o_call1 rfl (ha2 rfl rfl) rfl (fun H1 hH1 => (part_spec hE symB hp hbig hsub1 a b true H1 (hsym.mono hH1) oa na ca hna svs ts (hargs.mono hH1) h0).mono ?_)
  rintro v M1 ⟨rv, rfl, hnew⟩
  refine o_stN (M1 := M1) (M2 := [(b0, .row [.slice oa na ca, I64 a, I64 b] true)]) (cn := [rv, I64 (partR symB t true).2.1, I64 (partR symB t true).2.2]) rfl rfl rfl rfl (by show 0 + 3 ≤ 3; exact Nat.le_refl _) (by rcases hnew with ⟨h, _⟩ | ⟨_, _, _, _, h, _⟩ <;> rw [h] <;> rfl) rfl ?_
  refine o_nil ?_
  refine sSeq_normal ?_
  refine s_ret ?_
  refine sRet_ret [_] ⟨⟨_, _, _, rfl, List.mem_append_right _ (.head _), Nat.le_refl _, rfl⟩, trivial⟩ ?_
  exact ⟨rv, rfl, hnew.mono (fun x hx => List.mem_append_left _ hx)⟩

include hE in
theorem opIs_spec {t : List Node} (hp : 0 < t.length) (k a b : Int) (bk : Nat) (H : Hp) (hbk : ∃ o, H.get bk = .row [I64 k] o) (hbl : bk < H.size) (oa : Option Addr) (na ca : Nat) (hna : 0 < na) (svs : List Value) (ts : List (List Node)) (hargs : ArgsIs H oa svs ts) (h0 : ts[0]? = some t) : Sc E 27 [.agg ⟨[.slice oa na ca, I64 a, I64 b]⟩, .pointer (some ⟨bk, 0, none⟩)] H [] fun v M => ResIs v (truthR (whatOf t[0] == k)) M := by
  obtain ⟨ob, cap, g1, g2, g3, g4, hcap, hsl, ht⟩ := hargs.at h0
  obtain ⟨o, hbk⟩ := hbk
  refine sc_body hE.h27 rfl ?_
  show Ss E _ _ _ c27.body _ _ _
  unfold c27
  refine s_seq ?_
  refine s_ops ?_
  refine o_box (c := [.slice oa na ca, I64 a, I64 b]) rfl rfl rfl (fun b0 => ?_)
  refine o_newz rfl (fun b1 => ?_)
  refine o_nil ?_
  refine sSeq_normal ?_
  refine s_seq ?_
  refine s_draw [true, true, true, true, true, true, false, false, false] rfl ?_
  refine o_fad rfl rfl ?_
  refine o_ld1 rfl (by first | exact .head _ | exact .tail _ (.head _) | exact .tail _ (.tail _ (.head _)) | exact .tail _ (.tail _ (.tail _ (.head _))) | exact .tail _ (.tail _ (.tail _ (.tail _ (.head _))))) rfl rfl ?_
  refine o_iad (i := 0) rfl rfl hna g1 rfl ?_
  refine o_ld1_old rfl g2 (by simp) g4 rfl ?_
  refine o_call0 (v := I64 (whatOf (t[0]'hp))) rfl (ha1 rfl) rfl (fun H1 hH1 => what_spec hE hp H1 ob cap (hsl.mono hH1 (fun _ _ h => (by cases h)))) ?_
  refine o_ld1_old rfl hbl (by simp) (Am.cell_of_row hbk rfl) rfl ?_
  refine o_bin rfl rfl rfl rfl ?_
  refine o_call1 rfl (ha1 rfl) rfl (fun H1 hH1 => (truth_spec hE (whatOf (t[0]'hp) == k) H1).mono ?_)
  rintro v M1 ⟨rv, rfl, hnew⟩
  refine o_stN (M1 := M1) (M2 := [(b0, .row [.slice oa na ca, I64 a, I64 b] true)]) (cn := [rv, I64 0, I64 0]) rfl rfl rfl rfl (by show 0 + 3 ≤ 3; exact Nat.le_refl _) (by rcases hnew with ⟨h, _⟩ | ⟨_, _, _, _, h, _⟩ <;> rw [h] <;> rfl) rfl ?_
  refine o_nil ?_
  refine sSeq_normal ?_
  refine s_ret ?_
  refine sRet_ret [_] ⟨⟨_, _, _, rfl, List.mem_append_right _ (.head _), Nat.le_refl _, rfl⟩, trivial⟩ ?_
  exact ⟨rv, rfl, hnew.mono (fun x hx => List.mem_append_left _ hx)⟩

end Go.Proofs.YtfonnebpnobomaaDoor.W
namespace Go.Proofs.YtfonnebpnobomaaDoor.W
open Go Am code
set_option maxRecDepth 100000
set_option maxHeartbeats 4000000
set_option linter.unusedSimpArgs false
set_option linter.unusedVariables false
variable {E : Env} (hE : Has E)

/-- the first argument that is no number -/
def notInt (ts : List (List Node)) : Nat → Nat → Int
  | 0, _ => -1
  | k + 1, i => match ts[i]? with
    | none => -1
    | some t => match t[0]? with
      | none => -1
      | some x => if x.kind ≠ 1 then i else notInt ts k (i + 1)

include hE in
theorem apply1_spec {t : List Node} (hp : 0 < t.length) (H : Hp) (ob : Option Addr) (cap : Nat) (hsl : SlE H 6 ob (t.map Node.cells)) : Sc E 21 [.slice ob t.length cap] H [] fun v _ => v = .bool (t[0].kind != 1) := by
  have hg := hsl.get (i := 0) (by simpa using hp)
  have hcell : H.cell? ⟨(adr ob 6 0).block, (adr ob 6 0).off + 0, none⟩ = some (I64 t[0].kind) := hsl.cell (i := 0) (j := 0) (by simpa using hp) (by simp [Node.cells])
  refine sc_body hE.h21 rfl ?_
  show Ss E _ _ _ c21.body _ _ _
  unfold c21
  refine s_seq ?_
  refine s_ops ?_
  refine o_mov rfl rfl ?_
  refine o_nil ?_
  refine sSeq_normal ?_
  refine s_seq ?_
  refine s_ops ?_
  refine o_mov rfl rfl ?_
  refine o_iad (i := 0) rfl rfl hp hg.1 rfl ?_
  refine o_fad rfl rfl ?_
  refine o_ld1_old rfl hg.2.1 (by simp) hcell rfl ?_
  refine o_bin rfl rfl rfl rfl ?_
  refine o_mov rfl rfl ?_
  refine o_nil ?_
  refine sSeq_normal ?_
  refine s_ret ?_
  refine sRet_ret [_] ⟨rfl, trivial⟩ ?_
  rfl

include hE in
theorem indexFunc_spec (H : Hp) (oa : Option Addr) (ca : Nat) (svs : List Value) (ts : List (List Node)) (hbig : ts.length ≤ 1000000) (hargs : ArgsIs H oa svs ts) (hpos : ∀ t ∈ ts, 0 < t.length) : Sc E 20 [.slice oa ts.length ca, .func (.func 21) #[] #[]] H [] fun v _ => v = I64 (notInt ts ts.length 0) := by
  refine sc_body hE.h20 rfl ?_
  show Ss E _ _ _ c20.body _ _ _
  unfold c20
  refine s_seq ?_
  refine s_ops ?_
  refine o_mov rfl rfl ?_
  refine o_nil ?_
  refine sSeq_normal ?_
  refine s_seq ?_
  refine s_seq ?_
  refine s_ops ?_
  refine o_mov rfl rfl ?_
  refine o_lnl rfl rfl ?_
  refine o_mov rfl rfl ?_
  refine o_nil ?_
  refine sSeq_normal ?_
  refine s_block ?_
  refine s_iter (α := Nat) (fun k => ts.length - k) (fun k => [(0, .slice oa ts.length ca), (1, .func (.func 21) #[] #[]), (7, I64 (ts.length : Nat)), (8, I64 (k : Nat))]) (fun _ => []) (fun k => k ≤ ts.length ∧ notInt ts (ts.length - k) k = notInt ts ts.length 0) 0 (subCons rfl (subCons rfl (subCons rfl (subCons rfl subNil)))) (List.nil_sublist _) ⟨Nat.zero_le _, rfl⟩ ?_
  rintro k ⟨hk, hr⟩
  refine s_seq ?_
  refine s_ops ?_
  refine o_bin rfl rfl rfl rfl ?_
  refine o_nil ?_
  refine sSeq_normal ?_
  refine s_seq ?_
  refine s_cond rfl (fun hc0 => ?_) (fun hc0 => ?_)
  · have hk2 : k < ts.length := by simp at hc0; exact hc0
    obtain ⟨t, ht⟩ : ∃ t, ts[k]? = some t := ⟨ts[k], List.getElem?_eq_getElem hk2⟩
    have hp : 0 < t.length := hpos t (List.mem_of_getElem? ht)
    obtain ⟨ob, cap, g1, g2, g3, g4, hcap, hsl, hok⟩ := hargs.at ht
    rw [show ts.length - k = (ts.length - (k + 1)) + 1 by omega] at hr
    simp only [notInt, ht, List.getElem?_eq_getElem hp] at hr
    refine s_skip ?_
    refine sSeq_normal ?_
    refine s_seq ?_
    refine s_block ?_
    refine s_seq ?_
    refine s_ops ?_
    refine o_mov rfl rfl ?_
    refine o_mov rfl rfl ?_
    refine o_nil ?_
    refine sSeq_normal ?_
    refine s_seq ?_
    refine s_ops ?_
    refine o_mov rfl rfl ?_
    refine o_mov rfl rfl ?_
    refine o_mov rfl rfl ?_
    refine o_iad rfl rfl hk2 g1 rfl ?_
    refine o_ld1_old rfl g2 (by simp) g4 rfl ?_
    refine o_call0 (v := .bool ((t[0]'hp).kind != 1)) rfl (ha1 rfl) rfl (fun H1 hH1 => apply1_spec hE hp H1 ob cap (hsl.mono hH1 (fun _ _ h => (by cases h)))) ?_
    refine o_nil ?_
    refine sSeq_normal ?_
    refine s_cond rfl (fun hc1 => ?_) (fun hc1 => ?_)
    · have hn : t[0].kind ≠ 1 := by simpa using hc1
      have hres : notInt ts ts.length 0 = (k : Int) := by rw [← hr, if_pos hn]
      refine s_seq ?_
      refine s_ops ?_
      refine o_mov rfl rfl ?_
      refine o_mov rfl rfl ?_
      refine o_nil ?_
      refine sSeq_normal ?_
      refine s_ret ?_
      refine sBlock_ret ?_
      refine sSeq_ret ?_
      refine sIter_ret ?_
      refine sBlock_ret ?_
      refine sSeq_ret ?_
      refine sRet_ret [_] ⟨rfl, trivial⟩ ?_
      show I64 _ = _
      rw [hres]
      first | rfl | done
    · have hn : ¬ t[0].kind ≠ 1 := by simpa using hc1
      rw [if_neg hn] at hr
      refine s_skip ?_
      refine sBlock_normal ?_
      refine sSeq_normal ?_
      refine s_ops ?_
      refine o_bin (v := I64 (k + 1 : Nat)) rfl rfl (by simp only [binV, binInt, if_true]; rw [wrap64 (by omega) (by omega)]; rfl) rfl ?_
      refine o_mov rfl rfl ?_
      refine o_nil ?_
      exact sIter_next (k + 1) (by omega) (subCons rfl (subCons rfl (subCons rfl (subCons rfl subNil)))) (List.nil_sublist _) ⟨hk2, hr⟩
  · have hk2 : k = ts.length := by simp at hc0; omega
    have hres : notInt ts ts.length 0 = -1 := by rw [← hr, hk2, Nat.sub_self]; rfl
    refine s_exit ?_
    refine sSeq_exit ?_
    refine sIter_exit ?_
    refine sBlock_exit ?_
    refine sSeq_normal ?_
    refine s_seq ?_
    refine s_ops ?_
    refine o_mov rfl rfl ?_
    refine o_nil ?_
    refine sSeq_normal ?_
    refine s_ret ?_
    refine sRet_ret [_] ⟨rfl, trivial⟩ ?_
    show I64 _ = _
    rw [hres]
    first | rfl | done

end Go.Proofs.YtfonnebpnobomaaDoor.W
namespace Go.Proofs.YtfonnebpnobomaaDoor.W
open Go Am code
set_option maxRecDepth 100000
set_option maxHeartbeats 4000000
set_option linter.unusedSimpArgs false
set_option linter.unusedVariables false
variable {E : Env} (hE : Has E)

def fnV (f : FuncId) : Value := .func (.func f) #[] #[]
def entry (nm : List UInt8) (many : Int) (num : Bool) (f : Value) : List Value := [.string ⟨⟨nm⟩⟩, I64 many, .bool num, f]
def isFn (bk : Nat) : Value := .func (.func 27) #[] #[.pointer (some ⟨bk, 0, none⟩)]
/-- the table of the primitives; the predicates' numbers lie in six blocks -/
def table (k1 k2 k3 k4 k5 k6 : Nat) : List (List Value) := [
  entry [43] 2 true (fnV 29), entry [45] 2 true (fnV 30), entry [42] 2 true (fnV 31),
  entry [113, 117, 111, 116, 105, 101, 110, 116] 2 true (fnV 32), entry [114, 101, 109, 97, 105, 110, 100, 101, 114] 2 true (fnV 33),
  entry [61] 2 true (fnV 34), entry [60] 2 true (fnV 35), entry [99, 111, 110, 115] 2 false (fnV 36),
  entry [99, 97, 114] 1 false (fnV 37), entry [99, 100, 114] 1 false (fnV 39),
  entry [110, 117, 108, 108, 63] 1 false (isFn k1), entry [112, 97, 105, 114, 63] 1 false (isFn k2), entry [110, 117, 109, 98, 101, 114, 63] 1 false (isFn k3), entry [98, 111, 111, 108, 101, 97, 110, 63] 1 false (isFn k4),
  entry [115, 121, 109, 98, 111, 108, 63] 1 false (isFn k5), entry [112, 114, 111, 99, 101, 100, 117, 114, 101, 63] 1 false (isFn k6),
  entry [101, 113, 63] 2 false (fnV 40), entry [110, 111, 116] 1 false (fnV 41)]

include hE in
theorem mkIs_spec (nm : List UInt8) (k : Int) (H : Hp) : Sc E 26 [.string ⟨⟨nm⟩⟩, I64 k] H [] fun v M => ∃ bk, v = .agg ⟨entry nm 1 false (isFn bk)⟩ ∧ (bk, .row [I64 k] true) ∈ M := by
  refine sc_body hE.h26 rfl ?_
  show Ss E _ _ _ c26.body _ _ _
  unfold c26
  refine s_seq ?_
  refine s_ops ?_
  refine o_box (c := [I64 k]) rfl rfl rfl (fun b0 => ?_)
  refine o_newz rfl (fun b1 => ?_)
  refine o_nil ?_
  refine sSeq_normal ?_
  refine s_seq ?_
  refine s_ops ?_
  refine o_mov rfl rfl ?_
  refine o_fn (c := [.pointer (some ⟨b0, 0, none⟩)]) ha0 (ha1 rfl) rfl ?_
  refine o_agg (c := entry nm 1 false (isFn b0)) (fun F hF => by simp only [List.map, hF.ev (x := .tmp 5) rfl, hF.ev (x := .tmp 6) rfl]; rfl) rfl ?_
  refine o_stN (M1 := []) (cn := entry nm 1 false (isFn b0)) rfl rfl rfl rfl (by show 0 + 4 ≤ 4; exact Nat.le_refl _) rfl rfl ?_
  refine o_nil ?_
  refine sSeq_normal ?_
  refine s_ret ?_
  refine sRet_ret [_] ⟨⟨_, _, _, rfl, (by first | exact .head _ | exact .tail _ (.head _) | exact .tail _ (.tail _ (.head _)) | exact .tail _ (.tail _ (.tail _ (.head _))) | exact .tail _ (.tail _ (.tail _ (.tail _ (.head _))))), Nat.le_of_ble_eq_true rfl, rfl⟩, trivial⟩ ?_
  exact ⟨b0, rfl, .tail _ (.head _)⟩

include hE in
theorem operations_spec (H : Hp) : Sc E 23 [] H [] fun v M => ∃ b k1 k2 k3 k4 k5 k6, v = .slice (some ⟨b, 0, some 0⟩) 18 18 ∧ (b, .row (table k1 k2 k3 k4 k5 k6).flatten true) ∈ M ∧ (k1, Blk.row [I64 4] true) ∈ M ∧ (k2, Blk.row [I64 5] true) ∈ M ∧ (k3, Blk.row [I64 1] true) ∈ M ∧ (k4, Blk.row [I64 2] true) ∈ M ∧ (k5, Blk.row [I64 3] true) ∈ M ∧ (k6, Blk.row [I64 6] true) ∈ M := by
  refine sc_body hE.h23 rfl ?_
  show Ss E _ _ _ c23.body _ _ _
  unfold c23
  refine s_seq ?_
  refine s_ops ?_
  refine o_mov rfl rfl ?_
  refine o_nil ?_
  refine sSeq_normal ?_
  refine s_seq ?_
  refine s_ops ?_
  refine o_mov rfl rfl ?_
  refine o_nil ?_
  refine sSeq_normal ?_
  refine s_seq ?_
  refine s_ops ?_
  refine o_agg (c := entry [43] 2 true (fnV 29)) (fun F hF => rfl) rfl ?_
  refine o_agg (c := entry [45] 2 true (fnV 30)) (fun F hF => rfl) rfl ?_
  refine o_agg (c := entry [42] 2 true (fnV 31)) (fun F hF => rfl) rfl ?_
  refine o_agg (c := entry [113, 117, 111, 116, 105, 101, 110, 116] 2 true (fnV 32)) (fun F hF => rfl) rfl ?_
  refine o_agg (c := entry [114, 101, 109, 97, 105, 110, 100, 101, 114] 2 true (fnV 33)) (fun F hF => rfl) rfl ?_
  refine o_agg (c := entry [61] 2 true (fnV 34)) (fun F hF => rfl) rfl ?_
  refine o_agg (c := entry [60] 2 true (fnV 35)) (fun F hF => rfl) rfl ?_
  refine o_agg (c := entry [99, 111, 110, 115] 2 false (fnV 36)) (fun F hF => rfl) rfl ?_
  refine o_agg (c := entry [99, 97, 114] 1 false (fnV 37)) (fun F hF => rfl) rfl ?_
  refine o_agg (c := entry [99, 100, 114] 1 false (fnV 39)) (fun F hF => rfl) rfl ?_
  refine o_mov rfl rfl ?_
  refine o_call1 rfl (ha2 rfl rfl) rfl (fun H1 hH1 => (mkIs_spec hE _ _ H1).mono ?_)
  rintro v M1 ⟨k1, rfl, hk1⟩
  refine o_mov rfl rfl ?_
  refine o_call1 rfl (ha2 rfl rfl) rfl (fun H2 hH2 => (mkIs_spec hE _ _ H2).mono ?_)
  rintro v M2 ⟨k2, rfl, hk2⟩
  refine o_mov rfl rfl ?_
  refine o_call1 rfl (ha2 rfl rfl) rfl (fun H3 hH3 => (mkIs_spec hE _ _ H3).mono ?_)
  rintro v M3 ⟨k3, rfl, hk3⟩
  refine o_mov rfl rfl ?_
  refine o_call1 rfl (ha2 rfl rfl) rfl (fun H4 hH4 => (mkIs_spec hE _ _ H4).mono ?_)
  rintro v M4 ⟨k4, rfl, hk4⟩
  refine o_mov rfl rfl ?_
  refine o_call1 rfl (ha2 rfl rfl) rfl (fun H5 hH5 => (mkIs_spec hE _ _ H5).mono ?_)
  rintro v M5 ⟨k5, rfl, hk5⟩
  refine o_mov rfl rfl ?_
  refine o_call1 rfl (ha2 rfl rfl) rfl (fun H6 hH6 => (mkIs_spec hE _ _ H6).mono ?_)
  rintro v M6 ⟨k6, rfl, hk6⟩
  refine o_agg (c := entry [101, 113, 63] 2 false (fnV 40)) (fun F hF => rfl) rfl ?_
  refine o_agg (c := entry [110, 111, 116] 1 false (fnV 41)) (fun F hF => rfl) rfl ?_
  refine o_lits (c := (table k1 k2 k3 k4 k5 k6).flatten) (fun F hF => by simp only [List.map, hF.ev (x := .tmp 2) rfl, hF.ev (x := .tmp 3) rfl, hF.ev (x := .tmp 4) rfl, hF.ev (x := .tmp 5) rfl, hF.ev (x := .tmp 6) rfl, hF.ev (x := .tmp 7) rfl, hF.ev (x := .tmp 8) rfl, hF.ev (x := .tmp 9) rfl, hF.ev (x := .tmp 10) rfl, hF.ev (x := .tmp 11) rfl, hF.ev (x := .tmp 13) rfl, hF.ev (x := .tmp 15) rfl, hF.ev (x := .tmp 17) rfl, hF.ev (x := .tmp 19) rfl, hF.ev (x := .tmp 21) rfl, hF.ev (x := .tmp 23) rfl, hF.ev (x := .tmp 24) rfl, hF.ev (x := .tmp 25) rfl]; rfl) rfl (fun b26 => ?_)
  refine o_mov rfl rfl ?_
  refine o_nil ?_
  refine sSeq_normal ?_
  refine s_ret ?_
  refine sRet_ret [_] ⟨rfl, trivial⟩ ?_
  exact ⟨b26, k1, k2, k3, k4, k5, k6, rfl, .head _, by simp [hk1], by simp [hk2], by simp [hk3], by simp [hk4], by simp [hk5], by simp [hk6]⟩

end Go.Proofs.YtfonnebpnobomaaDoor.W
namespace Go.Proofs.YtfonnebpnobomaaDoor.W
open Go Am code
set_option maxRecDepth 100000
set_option maxHeartbeats 4000000
set_option linter.unusedSimpArgs false
set_option linter.unusedVariables false
variable {E : Env} (hE : Has E)

def nameOf : List Value → ByteArray
  | .string s :: _ => s
  | _ => ⟨#[]⟩
def psT (T : List (List Value)) : List (ByteArray × Value) := T.map fun e => (nameOf e, .agg ⟨e⟩)
def names : List ByteArray := (table 0 0 0 0 0 0).map nameOf
theorem names_eq (k1 k2 k3 k4 k5 k6 : Nat) : (table k1 k2 k3 k4 k5 k6).map nameOf = names := rfl
theorem table_len (k1 k2 k3 k4 k5 k6 : Nat) : (table k1 k2 k3 k4 k5 k6).length = 18 := rfl
theorem table_form (k1 k2 k3 k4 k5 k6 : Nat) : ∀ e ∈ table k1 k2 k3 k4 k5 k6, ∃ nm m nb f, e = [.string nm, I64 m, .bool nb, f] ∧ oneCell f = true := by
  intro e he
  simp only [table, List.mem_cons, List.not_mem_nil, or_false] at he
  rcases he with rfl | rfl | rfl | rfl | rfl | rfl | rfl | rfl | rfl | rfl | rfl | rfl | rfl | rfl | rfl | rfl | rfl | rfl <;> exact ⟨_, _, _, _, rfl, rfl⟩
theorem names_apart : ∀ k : Fin 18, ((names.take k.1).all fun p => !(names[k.1]?.getD ⟨#[]⟩ == p)) = true := by decide +kernel
theorem lookP_none {s : ByteArray} : ∀ {ps : List (ByteArray × Value)}, (∀ p ∈ ps, (s == p.1) = false) → lookP s ps = none := by
  intro ps
  induction ps with
  | nil => intro _; rfl
  | cons p ps ih => intro h; unfold lookP; rw [h p (by simp)]; simp; exact ih fun p hp => h p (by simp [hp])
theorem table_new (k1 k2 k3 k4 k5 k6 : Nat) {k : Nat} (hk : k < 18) {nm : ByteArray} (hn : names[k]? = some nm) : lookP nm (psT ((table k1 k2 k3 k4 k5 k6).take k)) = none := by
  refine lookP_none fun p hp => ?_
  have h := names_apart ⟨k, hk⟩
  simp only [hn, Option.getD_some] at h
  have h2 : p.1 ∈ names.take k := by
    rw [← names_eq k1 k2 k3 k4 k5 k6, ← List.map_take]
    simp only [psT, List.mem_map] at hp ⊢
    obtain ⟨e, he, rfl⟩ := hp
    exact ⟨e, he, rfl⟩
  have := List.all_eq_true.1 h p.1 h2
  simpa using this
theorem lookP_mem {s : ByteArray} : ∀ {ps : List (ByteArray × Value)} {v : Value}, lookP s ps = some v → ∃ p ∈ ps, p.2 = v := by
  intro ps
  induction ps with
  | nil => intro v h; cases h
  | cons p ps ih =>
    intro v h
    unfold lookP at h
    split at h
    · cases h; exact ⟨p, by simp, rfl⟩
    · obtain ⟨q, h1, h2⟩ := ih h
      exact ⟨q, by simp [h1], h2⟩
theorem find_form (k1 k2 k3 k4 k5 k6 : Nat) (s : ByteArray) : ∃ nm m nb f, (lookP s (psT (table k1 k2 k3 k4 k5 k6))).getD (.agg ⟨[.string ⟨#[]⟩, I64 0, .bool false, .nilFunc]⟩) = .agg ⟨[.string nm, I64 m, .bool nb, f]⟩ ∧ oneCell f = true := by
  cases h : lookP s (psT (table k1 k2 k3 k4 k5 k6)) with
  | none => exact ⟨_, _, _, _, rfl, rfl⟩
  | some v =>
    obtain ⟨p, h1, h2⟩ := lookP_mem h
    simp only [psT, List.mem_map] at h1
    obtain ⟨e, he, rfl⟩ := h1
    obtain ⟨nm, m, nb, f, h3, h4⟩ := table_form k1 k2 k3 k4 k5 k6 e he
    refine ⟨nm, m, nb, f, ?_, h4⟩
    rw [Option.getD_some, ← h2, h3]
def findR (T : List (List Value)) (s : ByteArray) : Value := (lookP s (psT T)).getD (.agg ⟨[.string ⟨#[]⟩, I64 0, .bool false, .nilFunc]⟩)

include hE in
theorem find_spec (s : ByteArray) (H : Hp) : Sc E 18 [.string s] H [] fun v M => ∃ k1 k2 k3 k4 k5 k6, v = .tuple ⟨[findR (table k1 k2 k3 k4 k5 k6) s, .bool (lookP s (psT (table k1 k2 k3 k4 k5 k6))).isSome]⟩ ∧ (k1, Blk.row [I64 4] true) ∈ M ∧ (k2, Blk.row [I64 5] true) ∈ M ∧ (k3, Blk.row [I64 1] true) ∈ M ∧ (k4, Blk.row [I64 2] true) ∈ M ∧ (k5, Blk.row [I64 3] true) ∈ M ∧ (k6, Blk.row [I64 6] true) ∈ M := by
  refine sc_body hE.h18 rfl ?_
  show Ss E _ _ _ c18.body _ _ _
  unfold c18
  refine s_seq ?_
  refine s_ops ?_
  refine o_newz rfl (fun b0 => ?_)
  refine o_mov rfl rfl ?_
  refine o_nil ?_
  refine sSeq_normal ?_
  refine s_seq ?_
  refine s_ops ?_
  refine o_mkm rfl (fun b2 => ?_)
  refine o_mov rfl rfl ?_
  refine o_nil ?_
  refine sSeq_normal ?_
  refine s_seq ?_
  refine s_seq ?_
  refine s_ops ?_
  refine o_call1 rfl ha0 rfl (fun H1 hH1 => (operations_spec hE H1).mono ?_)
  rintro v M1 ⟨bt, k1, k2, k3, k4, k5, k6, rfl, hbt, hk1, hk2, hk3, hk4, hk5, hk6⟩
  refine o_lnl rfl rfl ?_
  refine o_mov rfl rfl ?_
  refine o_nil ?_
  refine sSeq_normal ?_
  refine s_block ?_
  refine s_iter (α := Nat × Array MapEntry × Nat) (fun z => 18 - z.1) (fun z => [(0, .string s), (2, .pointer (some ⟨b0, 0, none⟩)), (4, .map (some b2)), (10, .slice (some ⟨bt, 0, some 0⟩) 18 18), (11, I64 (18 : Nat)), (12, I64 (z.1 : Nat))]) (fun z => M1 ++ [(b2, .map z.2.1 z.2.2), (b0, .row [.string ⟨#[]⟩, .int .i64 0, .bool false, .nilFunc] true)]) (fun z => z.1 ≤ 18 ∧ StrMap z.2.1 (psT ((table k1 k2 k3 k4 k5 k6).take z.1))) (0, #[], 0) (subCons rfl (subCons rfl (subCons rfl (subCons rfl (subCons rfl (subCons rfl subNil)))))) (.refl _) ⟨Nat.zero_le _, rfl⟩ ?_
  rintro ⟨k, es, clock⟩ ⟨hk, hes⟩
  dsimp only at hk hes ⊢
  refine s_seq ?_
  refine s_ops ?_
  refine o_bin rfl rfl rfl rfl ?_
  refine o_nil ?_
  refine sSeq_normal ?_
  refine s_seq ?_
  refine s_cond rfl (fun hc0 => ?_) (fun hc0 => ?_)
  · have hk2 : k < 18 := by simp at hc0; omega
    have hkT : k < (table k1 k2 k3 k4 k5 k6).length := hk2
    obtain ⟨nm, m, nb, f, hent, hf⟩ := table_form k1 k2 k3 k4 k5 k6 (table k1 k2 k3 k4 k5 k6)[k] (List.getElem_mem hkT)
    have h4 : ∀ e ∈ (table k1 k2 k3 k4 k5 k6), e.length = 4 := fun e he => by
      obtain ⟨_, _, _, _, h, _⟩ := table_form k1 k2 k3 k4 k5 k6 e he
      rw [h]; rfl
    have hfl := flatten_at h4 hkT
    have hfn := flatten_len h4
    rw [table_len] at hfn
    rw [hent] at hfl
    have hnm : names[k]? = some nm := by
      rw [← names_eq k1 k2 k3 k4 k5 k6, List.getElem?_map, List.getElem?_eq_getElem hkT, hent]; rfl
    have hnew := table_new k1 k2 k3 k4 k5 k6 hk2 hnm
    have htk : psT ((table k1 k2 k3 k4 k5 k6).take (k + 1)) = psT ((table k1 k2 k3 k4 k5 k6).take k) ++ [(nm, .agg ⟨[.string nm, I64 m, .bool nb, f]⟩)] := by
      unfold psT; rw [List.take_succ_eq_append_getElem hkT, List.map_append, hent]; rfl
    refine s_skip ?_
    refine sSeq_normal ?_
    refine s_seq ?_
    refine s_block ?_
    refine s_seq ?_
    refine s_ops ?_
    refine o_iad rfl rfl hk2 rfl rfl ?_
    refine o_ldV (own := true) (c' := [.string nm, I64 m, .bool nb, f]) rfl (List.mem_append_left _ hbt) (by show 0 + k * 4 + 4 ≤ _; rw [hfn]; omega) (by show (List.drop (0 + k * 4) _).take 4 = _; rw [Nat.zero_add]; exact hfl) rfl ?_
    refine o_newz rfl (fun b10 => ?_)
    refine o_stN (M1 := []) (cn := [.string nm, I64 m, .bool nb, f]) rfl rfl rfl rfl (by show 0 + 4 ≤ 4; exact Nat.le_refl _) (by simp [oneCell, Value.cells] at hf ⊢; exact hf) rfl ?_
    refine o_nil ?_
    refine sSeq_normal ?_
    refine s_ops ?_
    refine o_mov rfl rfl ?_
    refine o_fad rfl rfl ?_
    refine o_ld1 rfl (by first | exact .head _ | exact .tail _ (.head _) | exact .tail _ (.tail _ (.head _)) | exact .tail _ (.tail _ (.tail _ (.head _))) | exact .tail _ (.tail _ (.tail _ (.tail _ (.head _))))) rfl rfl ?_
    refine o_ldV (own := true) (c := [.string nm, I64 m, .bool nb, f]) (c' := [.string nm, I64 m, .bool nb, f]) rfl (.head _) (by show 0 + 4 ≤ 4; exact Nat.le_refl _) rfl rfl ?_
    refine o_mupS (M1 := (b10, .row [.string nm, I64 m, .bool nb, f] true) :: M1) (M2 := [(b0, .row [.string ⟨#[]⟩, .int .i64 0, .bool false, .nilFunc] true)]) rfl rfl rfl rfl hes hnew (fun es2 clock2 hes2 => ?_)
    refine o_nil ?_
    refine sBlock_normal ?_
    refine sSeq_normal ?_
    refine s_ops ?_
    refine o_bin (v := I64 (k + 1 : Nat)) rfl rfl (by simp only [binV, binInt, if_true]; rw [wrap64 (by omega) (by omega)]; rfl) rfl ?_
    refine o_mov rfl rfl ?_
    refine o_nil ?_
    exact sIter_next (k + 1, es2, clock2) (by dsimp only; omega) (subCons rfl (subCons rfl (subCons rfl (subCons rfl (subCons rfl (subCons rfl subNil)))))) (.cons _ (.refl _)) ⟨hk2, by dsimp only; rw [htk]; exact hes2⟩
  · have hk2 : k = 18 := by simp at hc0; omega
    subst hk2
    rw [show (table k1 k2 k3 k4 k5 k6).take 18 = (table k1 k2 k3 k4 k5 k6) from rfl] at hes
    refine s_exit ?_
    refine sSeq_exit ?_
    refine sIter_exit ?_
    refine sBlock_exit ?_
    refine sSeq_normal ?_
    refine s_seq ?_
    refine s_ops ?_
    refine o_mov rfl rfl ?_
    refine o_mov rfl rfl ?_
    obtain ⟨nm, m, nb, f, hform, hf⟩ := find_form k1 k2 k3 k4 k5 k6 s
    refine o_lkpS rfl rfl (List.mem_append_right _ (.head _)) hes rfl ?_
    rw [show (.agg #[.string ⟨#[]⟩, .int .i64 0, .bool false, .nilFunc] : Value) = .agg ⟨[.string ⟨#[]⟩, I64 0, .bool false, .nilFunc]⟩ from rfl, hform]
    refine o_mov rfl rfl ?_
    refine o_ext rfl rfl rfl ?_
    refine o_ext rfl rfl rfl ?_
    refine o_newz rfl (fun b25 => ?_)
    refine o_stN (M1 := []) (cn := [.string nm, I64 m, .bool nb, f]) rfl rfl rfl rfl (by show 0 + 4 ≤ 4; exact Nat.le_refl _) (by simp [oneCell, Value.cells] at hf ⊢; exact hf) rfl ?_
    refine o_mov rfl rfl ?_
    refine o_nil ?_
    refine sSeq_normal ?_
    refine s_seq ?_
    refine s_ops ?_
    refine o_ldV (own := true) (c := [.string nm, I64 m, .bool nb, f]) (c' := [.string nm, I64 m, .bool nb, f]) rfl (.head _) (by show 0 + 4 ≤ 4; exact Nat.le_refl _) rfl rfl ?_
    refine o_mov rfl rfl ?_
    refine o_stN (M1 := (b25, .row [.string nm, I64 m, .bool nb, f] true) :: (M1 ++ [(b2, .map es clock)])) (M2 := []) (c := [.string ⟨#[]⟩, .int .i64 0, .bool false, .nilFunc]) (cn := [.string nm, I64 m, .bool nb, f]) rfl rfl rfl (by simp) (by show 0 + 4 ≤ 4; exact Nat.le_refl _) (by simp [oneCell, Value.cells] at hf ⊢; exact hf) rfl ?_
    refine o_mov rfl rfl ?_
    refine o_nil ?_
    refine sSeq_normal ?_
    refine s_ret ?_
    refine sRet_ret [_, _] ⟨⟨b0, [.string nm, I64 m, .bool nb, f], true, rfl, by simp, Nat.le_of_ble_eq_true rfl, rfl⟩, rfl, trivial⟩ ?_
    exact ⟨k1, k2, k3, k4, k5, k6, by unfold findR; rw [hform]; rfl, by simp [hk1], by simp [hk2], by simp [hk3], by simp [hk4], by simp [hk5], by simp [hk6]⟩

end Go.Proofs.YtfonnebpnobomaaDoor.W
namespace Go.Proofs.YtfonnebpnobomaaDoor.W
open Go Am code
set_option maxRecDepth 100000
set_option maxHeartbeats 4000000
set_option linter.unusedSimpArgs false
set_option linter.unusedVariables false
variable {E : Env} (hE : Has E)
include hE in
theorem opNot_spec {t : List Node} (hp : 0 < t.length) (a b : Int) (H : Hp) (oa : Option Addr) (na ca : Nat) (hna : 0 < na) (svs : List Value) (ts : List (List Node)) (hargs : ArgsIs H oa svs ts) (h0 : ts[0]? = some t) : Sc E 41 [.agg ⟨[.slice oa na ca, I64 a, I64 b]⟩] H [] fun v M => ResIs v (truthR ((t[0].kind == 2) && (t[0].n == 0))) M := by
  obtain ⟨ob, cap, g1, g2, g3, g4, hcap, hsl, ht⟩ := hargs.at h0
  have hg := hsl.get (i := 0) (by simpa using hp)
  have hcell : H.cell? ⟨(adr ob 6 0).block, (adr ob 6 0).off + 0, none⟩ = some (I64 t[0].kind) := hsl.cell (i := 0) (j := 0) (by simpa using hp) (by simp [Node.cells])
  have hcell2 : H.cell? ⟨(adr ob 6 0).block, (adr ob 6 0).off + 2, none⟩ = some (I64 t[0].n) := hsl.cell (i := 0) (j := 2) (by simpa using hp) (by simp [Node.cells])
  refine sc_body hE.h41 rfl ?_
  show Ss E _ _ _ c41.body _ _ _
  unfold c41
  refine s_seq ?_
  refine s_ops ?_
  refine o_box (c := [.slice oa na ca, I64 a, I64 b]) rfl rfl rfl (fun b0 => ?_)
  refine o_newz rfl (fun b1 => ?_)
  refine o_nil ?_
  refine sSeq_normal ?_
  refine s_seq ?_
  refine s_ops ?_
  refine o_fad rfl rfl ?_
  refine o_ld1 rfl (by first | exact .head _ | exact .tail _ (.head _) | exact .tail _ (.tail _ (.head _)) | exact .tail _ (.tail _ (.tail _ (.head _))) | exact .tail _ (.tail _ (.tail _ (.tail _ (.head _))))) rfl rfl ?_
  refine o_iad (i := 0) rfl rfl hna g1 rfl ?_
  refine o_ld1_old rfl g2 (by simp) g4 rfl ?_
  refine o_iad (i := 0) rfl rfl hp hg.1 rfl ?_
  refine o_fad rfl rfl ?_
  refine o_ld1_old rfl hg.2.1 (by simp) hcell rfl ?_
  refine o_bin rfl rfl rfl rfl ?_
  refine o_mov rfl rfl ?_
  refine g_fad (by first | exact wanted_b rfl | exact wanted_g rfl) (by first | exact evG rfl | exact evG2 rfl | exact evG3 rfl | exact fun _ => rfl) rfl ?_
  refine g_ld1 (by first | exact wanted_b rfl | exact wanted_g rfl) (by first | exact evG rfl | exact evG2 rfl | exact evG3 rfl | exact fun _ => rfl) (by first | exact .head _ | exact .tail _ (.head _) | exact .tail _ (.tail _ (.head _)) | exact .tail _ (.tail _ (.tail _ (.head _))) | exact .tail _ (.tail _ (.tail _ (.tail _ (.head _))))) rfl rfl ?_
  refine g_iad (i := 0) (by first | exact wanted_b rfl | exact wanted_g rfl) (by first | exact evG rfl | exact evG2 rfl | exact evG3 rfl | exact fun _ => rfl) (by first | exact evG rfl | exact evG2 rfl | exact evG3 rfl | exact fun _ => rfl) (fun _ => hna) (fun _ => g1) rfl ?_
  refine g_ldOld (by first | exact wanted_b rfl | exact wanted_g rfl) (by first | exact evG rfl | exact evG2 rfl | exact evG3 rfl | exact fun _ => rfl) g2 (by simp) g4 rfl ?_
  refine g_iad (i := 0) (by first | exact wanted_b rfl | exact wanted_g rfl) (by first | exact evG rfl | exact evG2 rfl | exact evG3 rfl | exact fun _ => rfl) (by first | exact evG rfl | exact evG2 rfl | exact evG3 rfl | exact fun _ => rfl) (fun _ => hp) (fun _ => hg.1) rfl ?_
  refine g_fad (by first | exact wanted_b rfl | exact wanted_g rfl) (by first | exact evG rfl | exact evG2 rfl | exact evG3 rfl | exact fun _ => rfl) rfl ?_
  refine g_ldOld (a := ⟨(adr ob 6 0).block, (adr ob 6 0).off + 2, none⟩) (by first | exact wanted_b rfl | exact wanted_g rfl) (by first | exact evG rfl | exact evG2 rfl | exact evG3 rfl | exact fun _ => rfl) hg.2.1 (by simp) hcell2 rfl ?_
  refine g_bin (by first | exact wanted_b rfl | exact wanted_g rfl) (by first | exact evG rfl | exact evG2 rfl | exact evG3 rfl | exact fun _ => rfl) (by first | exact evG rfl | exact evG2 rfl | exact evG3 rfl | exact fun _ => rfl) (fun _ => rfl) rfl ?_
  refine o_pickB rfl (by first | exact fun h => evG rfl (by rw [h]; rfl) | exact fun _ => rfl) (by first | exact fun h => evG rfl (by rw [h]; rfl) | exact fun _ => rfl) rfl ?_
  refine o_call1 rfl (ha1 rfl) rfl (fun H1 hH1 => (truth_spec hE _ H1).mono ?_)
  rintro v M1 hr
  have hr2 : ResIs v (truthR ((t[0].kind == 2) && (t[0].n == 0))) M1 := by
    revert hr
    generalize (t[0].kind == 2) = p
    generalize (t[0].n == 0) = q
    intro hr
    cases p <;> cases q <;> exact hr
  obtain ⟨rv, rfl, hnew⟩ := hr2
  refine o_stN (M1 := M1) (M2 := [(b0, .row [.slice oa na ca, I64 a, I64 b] true)]) (cn := [rv, I64 0, I64 0]) rfl rfl rfl rfl (by show 0 + 3 ≤ 3; exact Nat.le_refl _) (by rcases hnew with ⟨h, _⟩ | ⟨_, _, _, _, h, _⟩ <;> rw [h] <;> rfl) rfl ?_
  refine o_nil ?_
  refine sSeq_normal ?_
  refine s_ret ?_
  refine sRet_ret [_] ⟨⟨_, _, _, rfl, List.mem_append_right _ (.head _), Nat.le_refl _, rfl⟩, trivial⟩ ?_
  exact ⟨rv, rfl, hnew.mono (fun x hx => List.mem_append_left _ hx)⟩

end Go.Proofs.YtfonnebpnobomaaDoor.W
namespace Go.Proofs.YtfonnebpnobomaaDoor.W
open Go Am code
set_option maxRecDepth 100000
set_option maxHeartbeats 4000000
set_option linter.unusedSimpArgs false
set_option linter.unusedVariables false
variable {E : Env} (hE : Has E)

theorem wrapU64 {z : Int} (h1 : 0 ≤ z) (h2 : z ≤ 18446744073709551615) : IntKind.wrap .u64 z = z := by
  simp only [IntKind.wrap, IntKind.bits, IntKind.signed]
  simp
  omega
def sizeR (i : Int) : Int := if i < 0 then -i else i

end Go.Proofs.YtfonnebpnobomaaDoor.W
namespace Go.Proofs.YtfonnebpnobomaaDoor.W
open Go Am code
set_option maxRecDepth 100000
set_option maxHeartbeats 4000000
set_option linter.unusedSimpArgs false
set_option linter.unusedVariables false
variable {E : Env} (hE : Has E)

theorem wrapU {z : Int} (h1 : 0 ≤ z) (h2 : z ≤ 18446744073709551615) : IntKind.wrap .u64 z = z := by
  simp only [IntKind.wrap, IntKind.bits, IntKind.signed]
  simp
  omega
theorem mulB {a b : Nat} (ha : a < 4294967296) (hb : b < 4294967296) : a * b ≤ 18446744065119617025 := by
  have := Nat.mul_le_mul (Nat.le_sub_one_of_lt ha) (Nat.le_sub_one_of_lt hb)
  simpa using this
/-- the upper half of a product -/
theorem mulHi (x y : Nat) :
    (x / 4294967296) * (y / 4294967296) + ((x / 4294967296) * (y % 4294967296) + (x % 4294967296) * (y % 4294967296) / 4294967296) / 4294967296 + (((x / 4294967296) * (y % 4294967296) + (x % 4294967296) * (y % 4294967296) / 4294967296) % 4294967296 + (x % 4294967296) * (y / 4294967296)) / 4294967296 = x * y / 18446744073709551616 := by
  have ex : x = (x / 4294967296) * 4294967296 + x % 4294967296 := by omega
  have ey : y = (y / 4294967296) * 4294967296 + y % 4294967296 := by omega
  generalize x / 4294967296 = a at *
  generalize x % 4294967296 = b at *
  generalize y / 4294967296 = c at *
  generalize y % 4294967296 = d at *
  have e : x * y = a * c * 18446744073709551616 + (a * d + b * c) * 4294967296 + b * d := by
    rw [ex, ey, Nat.add_mul, Nat.mul_add, Nat.mul_add, Nat.add_mul]
    have h1 : a * 4294967296 * (c * 4294967296) = a * c * 18446744073709551616 := by rw [Nat.mul_mul_mul_comm]
    have h2 : a * 4294967296 * d = a * d * 4294967296 := by rw [Nat.mul_right_comm]
    have h3 : b * (c * 4294967296) = b * c * 4294967296 := by rw [Nat.mul_assoc]
    rw [h1, h2, h3]; omega
  rw [e]
  generalize a * c = p
  generalize a * d = q
  generalize b * c = r
  generalize b * d = s
  omega
theorem and32 {z : Int} (h1 : 0 ≤ z) (h2 : z < 18446744073709551616) : (BitVec.ofInt 64 z &&& BitVec.ofInt 64 4294967295).toNat = z.toNat % 4294967296 := by
  obtain ⟨n, rfl⟩ := Int.eq_ofNat_of_zero_le h1
  have : BitVec.ofInt 64 4294967295 = 4294967295#64 := by decide
  rw [this, BitVec.toNat_and, BitVec.toNat_ofInt]
  have e : (4294967295#64).toNat = 2 ^ 32 - 1 := by decide
  rw [e, Nat.and_two_pow_sub_one_eq_mod]
  have : ((n : Int) % ((2 ^ 64 : Nat) : Int)).toNat = n := by
    rw [Int.emod_eq_of_lt h1 (by simpa using h2)]; simp
  rw [this]; simp
theorem absLe {z : Int} {m : Nat} : z.natAbs ≤ m ↔ -(m : Int) ≤ z ∧ z ≤ m := by omega
/-- what the product's check says -/
def mostN (a b : Int) : Nat := if decide (a < 0) != decide (b < 0) then 9223372036854775808 else 9223372036854775807
theorem prod_exact {a b : Int} (h : a.natAbs * b.natAbs ≤ mostN a b) : -9223372036854775808 ≤ a * b ∧ a * b ≤ 9223372036854775807 := by
  have e : (a * b).natAbs = a.natAbs * b.natAbs := Int.natAbs_mul a b
  rw [← e] at h
  unfold mostN at h
  by_cases ha : a < 0
  · by_cases hb : b < 0
    · simp [ha, hb] at h; omega
    · simp [ha, hb] at h
      have : a * b ≤ 0 := Int.mul_nonpos_of_nonpos_of_nonneg (by omega) (by omega)
      omega
  · by_cases hb : b < 0
    · simp [ha, hb] at h
      have : a * b ≤ 0 := Int.mul_nonpos_of_nonneg_of_nonpos (by omega) (by omega)
      omega
    · simp [ha, hb] at h; omega
theorem fits_of {a b : Int} (h1 : -9223372036854775808 ≤ a * b) (h2 : a * b ≤ 9223372036854775807) : a.natAbs * b.natAbs ≤ mostN a b := by
  have e : (a * b).natAbs = a.natAbs * b.natAbs := Int.natAbs_mul a b
  rw [← e]
  unfold mostN
  by_cases ha : a < 0
  · by_cases hb : b < 0
    · have : 0 ≤ a * b := Int.mul_nonneg_of_nonpos_of_nonpos (by omega) (by omega)
      simp [ha, hb]; omega
    · simp [ha, hb]; omega
  · by_cases hb : b < 0
    · simp [ha, hb]; omega
    · have : 0 ≤ a * b := Int.mul_nonneg (by omega) (by omega)
      simp [ha, hb]; omega
/-- quotient and remainder -/
theorem quoRem (x y : Int) (hy : y ≠ 0) : x = x.tdiv y * y + x.tmod y ∧ (x.tmod y).natAbs < y.natAbs ∧ (0 ≤ x → 0 ≤ x.tmod y) ∧ (x ≤ 0 → x.tmod y ≤ 0) ∧ (x.tdiv y * y).natAbs ≤ x.natAbs ∧ (0 ≤ x → 0 ≤ x.tdiv y * y) ∧ (x ≤ 0 → x.tdiv y * y ≤ 0) := by
  have h1 : x = x.tdiv y * y + x.tmod y := by
    have := Int.mul_tdiv_add_tmod x y
    rw [Int.mul_comm] at this; omega
  have h2 : (x.tmod y).natAbs < y.natAbs := by
    rw [Int.natAbs_tmod]; exact Nat.mod_lt _ (by omega)
  have h3 : 0 ≤ x → 0 ≤ x.tmod y := fun h => Int.tmod_nonneg y h
  have h4 : x ≤ 0 → x.tmod y ≤ 0 := fun h => by
    have := Int.tmod_nonneg y (a := -x) (by omega)
    rw [Int.neg_tmod] at this; omega
  have h5 : (x.tdiv y * y).natAbs ≤ x.natAbs := by
    rw [Int.natAbs_mul, Int.natAbs_tdiv]; exact Nat.div_mul_le_self _ _
  refine ⟨h1, h2, h3, h4, h5, fun h => ?_, fun h => ?_⟩
  · have := h3 h
    have h6 : (x.tmod y).natAbs ≤ x.natAbs := by rw [Int.natAbs_tmod]; exact Nat.mod_le _ _
    omega
  · have := h4 h
    have h6 : (x.tmod y).natAbs ≤ x.natAbs := by rw [Int.natAbs_tmod]; exact Nat.mod_le _ _
    omega
theorem binMod {n : Nat} (h : n < 18446744073709551616) : binV .and (.int .u64 (n : Int)) (.int .u64 4294967295) = some (.int .u64 ((n % 4294967296 : Nat) : Int)) := by
  show some (Value.int .u64 (IntKind.wrap .u64 (((BitVec.ofInt 64 (n : Int) &&& BitVec.ofInt 64 4294967295).toNat : Nat) : Int))) = _
  rw [and32 (by omega) (by omega), Int.toNat_natCast, wrapU (by omega) (by omega)]
theorem binDiv {n : Nat} : binV .shr (.int .u64 (n : Int)) (.int .u64 32) = some (.int .u64 ((n / 4294967296 : Nat) : Int)) := by
  simp only [binV, IntKind.bits]
  rw [if_neg (by decide), Int.fdiv_eq_ediv_of_nonneg _ (by decide)]
  have : ((2 : Int) ^ (min (32 : Int).toNat 64)) = 4294967296 := by decide
  rw [this, Int.natCast_ediv]; rfl
theorem binMul {a b : Nat} (h : a * b < 18446744073709551616) : binV .mul (.int .u64 (a : Int)) (.int .u64 (b : Int)) = some (.int .u64 ((a * b : Nat) : Int)) := by
  simp only [binV, binInt, if_true]
  rw [← Int.natCast_mul, wrapU (by omega) (by omega)]
theorem binAdd {a b : Nat} (h : a + b < 18446744073709551616) : binV .add (.int .u64 (a : Int)) (.int .u64 (b : Int)) = some (.int .u64 ((a + b : Nat) : Int)) := by
  simp only [binV, binInt, if_true]
  rw [← Int.natCast_add, wrapU (by omega) (by omega)]
theorem binMulLo {a b : Nat} : binV .mul (.int .u64 (a : Int)) (.int .u64 (b : Int)) = some (.int .u64 ((a * b % 18446744073709551616 : Nat) : Int)) := by
  simp only [binV, binInt, if_true]
  rw [← Int.natCast_mul]
  simp only [IntKind.wrap, IntKind.bits, IntKind.signed]
  simp
def prodR (a b : Int) : List Node × Int × Int := numberR (w64 (a * b)) (decide (a.natAbs * b.natAbs ≤ mostN a b))

end Go.Proofs.YtfonnebpnobomaaDoor.W
namespace Go.Proofs.YtfonnebpnobomaaDoor.W
open Go Am code
set_option maxRecDepth 100000
set_option maxHeartbeats 4000000
set_option linter.unusedSimpArgs false
set_option linter.unusedVariables false
variable {E : Env} (hE : Has E)
variable (symB : ByteArray → Bool)

/-- the first argument that is no value -/
def badArg (ts : List (List Node)) : Nat → Nat → Option (Nat × Int)
  | 0, _ => none
  | k + 1, i => match ts[i]? with
    | none => none
    | some t => if valErr symB t ≠ 0 then some (i, valErr symB t) else badArg ts k (i + 1)
theorem badArg_none {ts : List (List Node)} : ∀ {k i : Nat}, i + k = ts.length → badArg symB ts k i = none → ∀ (j : Nat) t, i ≤ j → ts[j]? = some t → valErr symB t = 0 := by
  intro k
  induction k with
  | zero =>
    intro i hi _ j t hj ht
    have := (List.getElem?_eq_some_iff.1 ht).1
    omega
  | succ k ih =>
    intro i hi h j t hj ht
    have hlt : i < ts.length := by omega
    simp only [badArg, List.getElem?_eq_getElem hlt] at h
    split at h
    · cases h
    · rename_i hv
      rcases Nat.eq_or_lt_of_le hj with e | e
      · subst e
        rw [List.getElem?_eq_getElem hlt] at ht
        cases ht
        simpa using hv
      · exact ih (by omega) h j t e ht
theorem notInt_neg {ts : List (List Node)} (hpos : ∀ t ∈ ts, 0 < t.length) : ∀ {k i : Nat}, i + k = ts.length → notInt ts k i < 0 → ∀ (j : Nat) t x, i ≤ j → ts[j]? = some t → t[0]? = some x → x.kind = 1 := by
  intro k
  induction k with
  | zero =>
    intro i hi _ j t x hj ht _
    have := (List.getElem?_eq_some_iff.1 ht).1
    omega
  | succ k ih =>
    intro i hi h j t x hj ht hx
    have hlt : i < ts.length := by omega
    have hp := hpos ts[i] (List.getElem_mem hlt)
    simp only [notInt, List.getElem?_eq_getElem hlt, List.getElem?_eq_getElem hp] at h
    split at h
    · omega
    · rename_i hv
      rcases Nat.eq_or_lt_of_le hj with e | e
      · subst e
        rw [List.getElem?_eq_getElem hlt] at ht
        cases ht
        rw [List.getElem?_eq_getElem hp] at hx
        cases hx
        simpa using hv
      · exact ih (by omega) h j t x e ht hx
/-- what Apply returns, where R is what the primitive's function returns -/
def applyR (many : Int) (num : Bool) (ts : List (List Node)) (R : List Node × Int × Int) : List Node × Int × Int := match badArg symB ts ts.length 0 with
  | some (i, e) => ([], i, e)
  | none => if (ts.length : Int) ≠ many then ([], 0, 18) else if num = true ∧ notInt ts ts.length 0 ≥ 0 then ([], notInt ts ts.length 0, 19) else R
def TupIs (v : Value) (r : List Node × Int × Int) (M : Ms) : Prop := ∃ rv, v = .tuple ⟨[rv, I64 r.2.1, I64 r.2.2]⟩ ∧ NewL rv r.1 M
def KF (H : Hp) (k : Nat) (z : Int) : Prop := (∃ o, H.get k = .row [I64 z] o) ∧ k < H.size
theorem KF.of {H0 H : Hp} {S : List Nat} {M : Ms} {k : Nat} {z : Int} (h : St H0 S H M) (hm : (k, Blk.row [I64 z] true) ∈ M) : KF H k z := ⟨⟨true, (h.here _ _ hm).1⟩, (h.here _ _ hm).2.1⟩

include hE in
theorem Apply_spec (name : ByteArray) (ts : List (List Node)) (svs : List Value) (oa : Option Addr) (ca : Nat) (H : Hp) (hbig : ts.length ≤ 1000000) (hargs : ArgsIs H oa svs ts) (hsym : ∀ t ∈ ts, SymsOK E symB t H)
    (many : Int) (num : Bool) (R : List Node × Int × Int) (gf : FuncId) (cap : Nat → Nat → Nat → Nat → Nat → Nat → List Value) (hnum : num = true → many = 2)
    (hent : ∀ k1 k2 k3 k4 k5 k6, ∃ nm, lookP name (psT (table k1 k2 k3 k4 k5 k6)) = some (.agg ⟨[.string nm, I64 many, .bool num, .func (.func gf) #[] ⟨cap k1 k2 k3 k4 k5 k6⟩]⟩))
    (hdo : badArg symB ts ts.length 0 = none → (ts.length : Int) = many → ∀ a b : Int, (num = true → notInt ts ts.length 0 < 0 ∧ ∀ t u x y, ts[0]? = some t → ts[1]? = some u → t[0]? = some x → u[0]? = some y → a = x.n ∧ b = y.n) → ∀ k1 k2 k3 k4 k5 k6 H1, (∀ t ∈ ts, SymsOK E symB t H1) → ArgsIs H1 oa svs ts → KF H1 k1 4 → KF H1 k2 5 → KF H1 k3 1 → KF H1 k4 2 → KF H1 k5 3 → KF H1 k6 6 →
      Sc E gf (.agg ⟨[.slice oa ts.length ca, I64 a, I64 b]⟩ :: cap k1 k2 k3 k4 k5 k6) H1 [] fun v M => ResIs v R M) :
    Sc E 13 [.string name, .slice oa ts.length ca] H [] fun v M => TupIs v (applyR symB many num ts R) M := by
  refine sc_body hE.h13 rfl ?_
  show Ss E _ _ _ c13.body _ _ _
  unfold c13
  refine s_seq ?_
  refine s_ops ?_
  refine o_mov rfl rfl ?_
  refine o_mov rfl rfl ?_
  refine o_mov rfl rfl ?_
  refine o_nil ?_
  refine sSeq_normal ?_
  refine s_seq ?_
  refine s_ops ?_
  refine o_mov rfl rfl ?_
  refine o_call1 rfl (ha1 rfl) rfl (fun H1 hH1 => (find_spec hE name H1).mono ?_)
  rintro v M1 ⟨k1, k2, k3, k4, k5, k6, rfl, hk1, hk2, hk3, hk4, hk5, hk6⟩
  obtain ⟨nm, hl⟩ := hent k1 k2 k3 k4 k5 k6
  have hf : findR (table k1 k2 k3 k4 k5 k6) name = .agg ⟨[.string nm, I64 many, .bool num, .func (.func gf) #[] ⟨cap k1 k2 k3 k4 k5 k6⟩]⟩ := by unfold findR; rw [hl]; rfl
  rw [hf, hl]
  obtain ⟨fe, hfe⟩ : ∃ fe, fe = [.string nm, I64 many, .bool num, .func (.func gf) #[] ⟨cap k1 k2 k3 k4 k5 k6⟩] := ⟨_, rfl⟩
  have fe1 : fe[1]? = some (I64 many) := by rw [hfe]; rfl
  have fe2 : fe[2]? = some (.bool num) := by rw [hfe]; rfl
  have fe3 : fe[3]? = some (.func (.func gf) #[] ⟨cap k1 k2 k3 k4 k5 k6⟩) := by rw [hfe]; rfl
  have fel : fe.length = 4 := by rw [hfe]; rfl
  have feo : fe.all oneCell = true := by rw [hfe]; rfl
  have fes : setAll [.string ⟨#[]⟩, .int .i64 0, .bool false, .nilFunc] 0 fe = fe := by rw [hfe]; rfl
  rw [← hfe]
  clear hfe
  refine o_mov rfl rfl ?_
  refine o_ext rfl rfl rfl ?_
  refine o_ext rfl rfl rfl ?_
  refine o_newz rfl (fun b8 => ?_)
  refine o_stN (M1 := []) (cn := fe) rfl rfl fel rfl (by show 0 + fe.length ≤ 4; rw [fel]; exact Nat.le_refl _) feo fes ?_
  refine o_mov rfl rfl ?_
  refine o_nil ?_
  refine sSeq_normal ?_
  refine s_seq ?_
  refine s_seq ?_
  refine s_ops ?_
  refine o_mov rfl rfl ?_
  refine o_un rfl rfl rfl ?_
  refine o_nil ?_
  refine sSeq_normal ?_
  refine s_cond (p := false) rfl (fun hc0 => ?_) (fun hc0 => ?_)
  · cases hc0
    done
  · skip
    refine s_skip ?_
    refine sSeq_normal ?_
    refine s_seq ?_
    refine s_seq ?_
    refine s_ops ?_
    refine o_mov rfl rfl ?_
    refine o_lnl rfl rfl ?_
    refine o_mov rfl rfl ?_
    refine o_nil ?_
    refine sSeq_normal ?_
    refine s_block ?_
    refine s_iter (α := Nat) (fun k => ts.length - k) (fun k => [(1, .slice oa ts.length ca), (7, .pointer (some ⟨b8, 0, none⟩)), (22, .slice oa ts.length ca), (23, I64 (ts.length : Nat)), (24, I64 (k : Nat))]) (fun _ => (b8, .row fe true) :: (M1 ++ [])) (fun k => k ≤ ts.length ∧ badArg symB ts (ts.length - k) k = badArg symB ts ts.length 0) 0 (subCons rfl (subCons rfl (subCons rfl (subCons rfl (subCons rfl subNil))))) (.refl _) ⟨Nat.zero_le _, rfl⟩ ?_
    rintro k ⟨hk, hr⟩
    refine s_seq ?_
    refine s_ops ?_
    refine o_bin rfl rfl rfl rfl ?_
    refine o_nil ?_
    refine sSeq_normal ?_
    refine s_seq ?_
    refine s_cond rfl (fun hc1 => ?_) (fun hc1 => ?_)
    · have hkk : k < ts.length := by simp at hc1; exact hc1
      obtain ⟨t, ht⟩ : ∃ t, ts[k]? = some t := ⟨ts[k], List.getElem?_eq_getElem hkk⟩
      obtain ⟨ob, cap', g1, g2, g3, g4, hcap, hsl, hok⟩ := hargs.at ht
      rw [show ts.length - k = (ts.length - (k + 1)) + 1 by omega] at hr
      simp only [badArg, ht] at hr
      refine s_skip ?_
      refine sSeq_normal ?_
      refine s_seq ?_
      refine s_block ?_
      refine s_seq ?_
      refine s_ops ?_
      refine o_mov rfl rfl ?_
      refine o_iad rfl rfl hkk g1 rfl ?_
      refine o_ld1_old rfl g2 (by simp) g4 rfl ?_
      refine o_mov rfl rfl ?_
      refine o_mov rfl rfl ?_
      refine o_nil ?_
      refine sSeq_normal ?_
      refine s_seq ?_
      refine s_ops ?_
      refine o_mov rfl rfl ?_
      refine o_call0 (v := I64 (valErr symB t)) rfl (ha1 rfl) rfl (fun H1 hH1 => pvalue_spec hE symB hok H1 ((hsym t (List.mem_of_getElem? ht)).mono hH1) ob cap' (hsl.mono hH1 (fun _ _ h => (by cases h)))) ?_
      refine o_mov rfl rfl ?_
      refine o_nil ?_
      refine sSeq_normal ?_
      refine s_seq ?_
      refine s_ops ?_
      refine o_mov rfl rfl ?_
      refine o_bin rfl rfl rfl rfl ?_
      refine o_nil ?_
      refine sSeq_normal ?_
      refine s_cond rfl (fun hc2 => ?_) (fun hc2 => ?_)
      · have hv : valErr symB t ≠ 0 := by simpa using hc2
        have hres : applyR symB many num ts R = ([], (k : Int), valErr symB t) := by unfold applyR; rw [← hr, if_pos hv]
        refine s_seq ?_
        refine s_ops ?_
        refine o_mov rfl rfl ?_
        refine o_mov rfl rfl ?_
        refine o_mov rfl rfl ?_
        refine o_mov rfl rfl ?_
        refine o_mov rfl rfl ?_
        refine o_nil ?_
        refine sSeq_normal ?_
        refine s_ret ?_
        refine sBlock_ret ?_
        refine sSeq_ret ?_
        refine sIter_ret ?_
        refine sBlock_ret ?_
        refine sSeq_ret ?_
        refine sRet_ret [_, _, _] ⟨rfl, rfl, rfl, trivial⟩ ?_
        first | (exact ⟨_, (by rw [hres]; rfl), .inl ⟨rfl, (by rw [hres])⟩⟩; done) | exact ⟨rv, (by rw [hres]; rfl), (by rw [hres]; exact hnew.mono (fun x hx => List.mem_cons_of_mem _ (List.mem_append_left _ hx)))⟩
      · have hv : ¬ valErr symB t ≠ 0 := by simpa using hc2
        rw [if_neg hv] at hr
        refine s_skip ?_
        refine sBlock_normal ?_
        refine sSeq_normal ?_
        refine s_ops ?_
        refine o_bin (v := I64 (k + 1 : Nat)) rfl rfl (by simp only [binV, binInt, if_true]; rw [wrap64 (by omega) (by omega)]; rfl) rfl ?_
        refine o_mov rfl rfl ?_
        refine o_nil ?_
        exact sIter_next (k + 1) (by omega) (subCons rfl (subCons rfl (subCons rfl (subCons rfl (subCons rfl subNil))))) (.refl _) ⟨hkk, hr⟩
    · have hkk : k = ts.length := by simp at hc1; omega
      have hnone : badArg symB ts ts.length 0 = none := by rw [← hr, hkk, Nat.sub_self]; rfl
      refine s_exit ?_
      refine sSeq_exit ?_
      refine sIter_exit ?_
      refine sBlock_exit ?_
      refine sSeq_normal ?_
      refine s_seq ?_
      refine s_seq ?_
      refine s_ops ?_
      refine o_mov rfl rfl ?_
      refine o_lnl rfl rfl ?_
      refine o_fad rfl rfl ?_
      refine o_ld1 rfl (.head _) fe1 rfl ?_
      refine o_bin rfl rfl rfl rfl ?_
      refine o_nil ?_
      refine sSeq_normal ?_
      refine s_cond rfl (fun hc3 => ?_) (fun hc3 => ?_)
      · have hm : (ts.length : Int) ≠ many := by simpa using hc3
        have hres : applyR symB many num ts R = ([], 0, 18) := by unfold applyR; rw [hnone]; exact if_pos hm
        refine s_seq ?_
        refine s_ops ?_
        refine o_mov rfl rfl ?_
        refine o_mov rfl rfl ?_
        refine o_mov rfl rfl ?_
        refine o_nil ?_
        refine sSeq_normal ?_
        refine s_ret ?_
        refine sSeq_ret ?_
        refine sRet_ret [_, _, _] ⟨rfl, rfl, rfl, trivial⟩ ?_
        first | (exact ⟨_, (by rw [hres]; rfl), .inl ⟨rfl, (by rw [hres])⟩⟩; done) | exact ⟨rv, (by rw [hres]; rfl), (by rw [hres]; exact hnew.mono (fun x hx => List.mem_cons_of_mem _ (List.mem_append_left _ hx)))⟩
      · have hm : ¬ (ts.length : Int) ≠ many := by simpa using hc3
        have hm2 : (ts.length : Int) = many := by simpa using hm
        have hvals : ∀ (j : Nat) t, ts[j]? = some t → valErr symB t = 0 := fun j t ht => badArg_none symB (by omega) hnone j t (Nat.zero_le _) ht
        have hpos : ∀ t ∈ ts, 0 < t.length := fun t ht => by
          obtain ⟨j, hj⟩ := List.mem_iff_getElem?.1 ht
          exact valErr_ok symB (hvals j t hj)
        refine s_skip ?_
        refine sSeq_normal ?_
        refine s_seq ?_
        refine s_ops ?_
        refine o_mov rfl rfl ?_
        refine o_agg (c := [.slice oa ts.length ca, I64 0, I64 0]) (fun F hF => by simp only [List.map, hF.ev (x := .tmp 41) rfl]; rfl) rfl ?_
        refine o_newz rfl (fun b47 => ?_)
        refine o_stN (M1 := []) (cn := [.slice oa ts.length ca, I64 0, I64 0]) rfl rfl rfl rfl (by show 0 + 3 ≤ 3; exact Nat.le_refl _) rfl rfl ?_
        refine o_nil ?_
        refine sSeq_normal ?_
        refine s_mid (α := Int × Int) (fun _ => [(1, .slice oa ts.length ca), (7, .pointer (some ⟨b8, 0, none⟩)), (12, .pointer (some ⟨b47, 0, none⟩))]) (fun z => (b47, .row [.slice oa ts.length ca, I64 z.1, I64 z.2] true) :: (b8, .row fe true) :: (M1 ++ [])) (fun z => num = true → notInt ts ts.length 0 < 0 ∧ ∀ t u x y, ts[0]? = some t → ts[1]? = some u → t[0]? = some x → u[0]? = some y → z.1 = x.n ∧ z.2 = y.n) ?_ ?_
        · skip
          refine s_seq ?_
          refine s_ops ?_
          refine o_fad rfl rfl ?_
          refine o_ld1 rfl (.tail _ (.head _)) fe2 rfl ?_
          refine o_nil ?_
          refine sSeq_normal ?_
          refine s_cond rfl (fun hc4 => ?_) (fun hc4 => ?_)
          · skip
            refine s_seq ?_
            refine s_seq ?_
            refine s_ops ?_
            refine o_mov rfl rfl ?_
            refine o_call0 (v := I64 (notInt ts ts.length 0)) rfl (ha2 rfl rfl) rfl (fun H1 hH1 => indexFunc_spec hE H1 oa ca svs ts hbig (hargs.mono hH1) hpos) ?_
            refine o_mov rfl rfl ?_
            refine o_nil ?_
            refine sSeq_normal ?_
            refine s_seq ?_
            refine s_ops ?_
            refine o_mov rfl rfl ?_
            refine o_bin rfl rfl rfl rfl ?_
            refine o_nil ?_
            refine sSeq_normal ?_
            refine s_cond rfl (fun hc5 => ?_) (fun hc5 => ?_)
            · have hge : notInt ts ts.length 0 ≥ 0 := by simpa using hc5
              have hres : applyR symB many num ts R = ([], notInt ts ts.length 0, 19) := by unfold applyR; rw [hnone]; dsimp only; rw [if_neg hm, if_pos ⟨hc4, hge⟩]
              refine s_seq ?_
              refine s_ops ?_
              refine o_mov rfl rfl ?_
              refine o_mov rfl rfl ?_
              refine o_mov rfl rfl ?_
              refine o_mov rfl rfl ?_
              refine o_nil ?_
              refine sSeq_normal ?_
              refine s_ret ?_
              refine sSeq_ret ?_
              refine sMid_ret ?_
              refine sRet_ret [_, _, _] ⟨rfl, rfl, rfl, trivial⟩ ?_
              first | (exact ⟨_, (by rw [hres]; rfl), .inl ⟨rfl, (by rw [hres])⟩⟩; done) | exact ⟨rv, (by rw [hres]; rfl), (by rw [hres]; exact hnew.mono (fun x hx => List.mem_cons_of_mem _ (List.mem_append_left _ hx)))⟩
            · have hneg : notInt ts ts.length 0 < 0 := by simp at hc5; omega
              have hl2 : ts.length = 2 := by have := hnum hc4; omega
              obtain ⟨t, ht0⟩ : ∃ t, ts[0]? = some t := ⟨ts[0], List.getElem?_eq_getElem (by omega)⟩
              obtain ⟨u, ht1⟩ : ∃ u, ts[1]? = some u := ⟨ts[1], List.getElem?_eq_getElem (by omega)⟩
              have hp := hpos t (List.mem_of_getElem? ht0)
              have hq := hpos u (List.mem_of_getElem? ht1)
              obtain ⟨x0, hx0⟩ : ∃ x, t[0]? = some x := ⟨t[0], List.getElem?_eq_getElem hp⟩
              obtain ⟨y0, hy0⟩ : ∃ x, u[0]? = some x := ⟨u[0], List.getElem?_eq_getElem hq⟩
              obtain ⟨ob, cap1, g1, g2, g3, g4, hcap, hsl, hok⟩ := hargs.at ht0
              obtain ⟨oc, cap2, k1', k2', k3', k4', hcap2, hsl2, hok2⟩ := hargs.at ht1
              have hg := hsl.get (i := 0) (by simpa using hp)
              have hk := hsl2.get (i := 0) (by simpa using hq)
              have hcell : H.cell? ⟨(adr ob 6 0).block, (adr ob 6 0).off + 2, none⟩ = some (I64 x0.n) := hsl.cell (i := 0) (j := 2) (by simpa using hp) (by rw [List.getElem?_eq_getElem hp] at hx0; cases hx0; simp [Node.cells])
              have hcell2 : H.cell? ⟨(adr oc 6 0).block, (adr oc 6 0).off + 2, none⟩ = some (I64 y0.n) := hsl2.cell (i := 0) (j := 2) (by simpa using hq) (by rw [List.getElem?_eq_getElem hq] at hy0; cases hy0; simp [Node.cells])
              refine s_know (P := H.size ≤ b47) (fun H1 hH1 => ?_) (fun hne => ?_)
              · have e1 := (hH1.here b47 _ (.head _)).2.2
                simpa using e1
              refine s_skip ?_
              refine sSeq_normal ?_
              refine s_drawX ?_
              refine d_pure rfl ?_
              refine o_mov rfl rfl ?_
              refine o_nil ?_
              refine d_pure rfl ?_
              refine o_iad (i := 0) rfl rfl (by omega) g1 rfl ?_
              refine o_nil ?_
              refine d_readN [_] rfl (t_ld1 rfl) ?_
              refine o_ld1_old rfl g2 (by simp) g4 rfl ?_
              refine o_nil ?_
              refine d_pure rfl ?_
              refine o_iad (i := 0) rfl rfl hp hg.1 rfl ?_
              refine o_nil ?_
              refine d_pure rfl ?_
              refine o_fad rfl rfl ?_
              refine o_nil ?_
              refine d_readN [_] rfl (t_ld1 rfl) ?_
              refine o_ld1_old rfl hg.2.1 (by simp) hcell rfl ?_
              refine o_nil ?_
              refine d_pure rfl ?_
              refine o_mov rfl rfl ?_
              refine o_nil ?_
              refine d_pure rfl ?_
              refine o_iad (i := 1) rfl rfl (by omega) k1' rfl ?_
              refine o_nil ?_
              refine d_readN [_] rfl (t_ld1 rfl) ?_
              refine o_ld1_old rfl k2' (by simp) k4' rfl ?_
              refine o_nil ?_
              refine d_pure rfl ?_
              refine o_iad (i := 0) rfl rfl hq hk.1 rfl ?_
              refine o_nil ?_
              refine d_pure rfl ?_
              refine o_fad rfl rfl ?_
              refine o_nil ?_
              refine d_readN [_] rfl (t_ld1 rfl) ?_
              refine o_ld1_old rfl hk.2.1 (by simp) hcell2 rfl ?_
              refine o_nil ?_
              refine d_pure rfl ?_
              refine o_fad rfl rfl ?_
              refine o_nil ?_
              refine d_st (M1 := []) (cn := [.slice oa ts.length ca, I64 x0.n, I64 0]) rfl rfl rfl rfl (by show 1 + 1 ≤ 3; omega) rfl rfl ?_
              refine d_pure rfl ?_
              refine o_fad rfl rfl ?_
              refine o_nil ?_
              refine d_st (M1 := []) (cn := [.slice oa ts.length ca, I64 x0.n, I64 y0.n]) rfl rfl rfl rfl (by show 2 + 1 ≤ 3; omega) rfl rfl ?_
              refine d_nil (And.intro ?_ ?_)
              · have nb : ∀ {a b : Nat}, a ≠ b → Nat.beq a b = false := fun {a b} h => by
                  cases e : Nat.beq a b with
                  | false => rfl
                  | true => exact absurd (Nat.eq_of_beq_eq_true e) h
                have hg2 := hg.2.1
                have hk2 := hk.2.1
                simp [apart, compat, isIn, nb (show b47 ≠ (adr oa 1 0).block by omega), nb (show b47 ≠ (adr ob 6 0).block by omega), nb (show b47 ≠ (adr oa 1 1).block by omega), nb (show b47 ≠ (adr oc 6 0).block by omega)]
              first | exact sMid_normal (x0.n, y0.n) (subCons rfl (subCons rfl (subCons rfl subNil))) (.refl _) (fun _ => ⟨hneg, fun t1 u1 x1 y1 e1 e2 e3 e4 => by rw [ht0] at e1; cases e1; rw [ht1] at e2; cases e2; rw [hx0] at e3; cases e3; rw [hy0] at e4; cases e4; exact ⟨rfl, rfl⟩⟩) | exact sMid_normal (0, 0) (subCons rfl (subCons rfl (subCons rfl subNil))) (.refl _) (fun h => (by rw [hc4] at h; cases h))
          · skip
            refine s_skip ?_
            first | exact sMid_normal (x0.n, y0.n) (subCons rfl (subCons rfl (subCons rfl subNil))) (.refl _) (fun _ => ⟨hneg, fun t1 u1 x1 y1 e1 e2 e3 e4 => by rw [ht0] at e1; cases e1; rw [ht1] at e2; cases e2; rw [hx0] at e3; cases e3; rw [hy0] at e4; cases e4; exact ⟨rfl, rfl⟩⟩) | exact sMid_normal (0, 0) (subCons rfl (subCons rfl (subCons rfl subNil))) (.refl _) (fun h => (by rw [hc4] at h; cases h))
        · rintro ⟨a, b⟩ hab
          dsimp only at hab ⊢
          have hR : ¬ (num = true ∧ notInt ts ts.length 0 ≥ 0) := fun h => (by have := (hab h.1).1; omega)
          have hres : applyR symB many num ts R = R := by unfold applyR; rw [hnone]; dsimp only; rw [if_neg hm, if_neg hR]
          refine s_seq ?_
          refine s_ops ?_
          refine o_fad rfl rfl ?_
          refine o_ld1 rfl (.tail _ (.head _)) fe3 rfl ?_
          refine o_ld (own := true) (c := [.slice oa ts.length ca, I64 a, I64 b]) rfl (.head _) (by show 0 + 3 ≤ 3; exact Nat.le_refl _) rfl ?_
          refine o_call1 rfl (ha1 rfl) rfl (fun H1 hH1 => (hdo hnone hm2 a b hab k1 k2 k3 k4 k5 k6 H1 (fun t ht => (hsym t ht).mono hH1) (hargs.mono hH1) (.of hH1 (by simp [hk1])) (.of hH1 (by simp [hk2])) (.of hH1 (by simp [hk3])) (.of hH1 (by simp [hk4])) (.of hH1 (by simp [hk5])) (.of hH1 (by simp [hk6]))).mono ?_)
          rintro v M2 ⟨rv, rfl, hnew⟩
          refine o_newz rfl (fun b80 => ?_)
          refine o_stN (M1 := []) (cn := [rv, I64 R.2.1, I64 R.2.2]) rfl rfl rfl rfl (by show 0 + 3 ≤ 3; exact Nat.le_refl _) (by rcases hnew with ⟨h, _⟩ | ⟨_, _, _, _, h, _⟩ <;> rw [h] <;> rfl) rfl ?_
          refine o_nil ?_
          refine sSeq_normal ?_
          refine s_seq ?_
          refine s_draw [true, true, true, true, true, true, true, true, false] rfl ?_
          refine o_fad rfl rfl ?_
          refine o_ld1 rfl (by first | exact .head _ | exact .tail _ (.head _) | exact .tail _ (.tail _ (.head _)) | exact .tail _ (.tail _ (.tail _ (.head _))) | exact .tail _ (.tail _ (.tail _ (.tail _ (.head _))))) rfl rfl ?_
          refine o_fad rfl rfl ?_
          refine o_ld1 rfl (by first | exact .head _ | exact .tail _ (.head _) | exact .tail _ (.tail _ (.head _)) | exact .tail _ (.tail _ (.tail _ (.head _))) | exact .tail _ (.tail _ (.tail _ (.tail _ (.head _))))) rfl rfl ?_
          refine o_fad rfl rfl ?_
          refine o_ld1 rfl (by first | exact .head _ | exact .tail _ (.head _) | exact .tail _ (.tail _ (.head _)) | exact .tail _ (.tail _ (.tail _ (.head _))) | exact .tail _ (.tail _ (.tail _ (.tail _ (.head _))))) rfl rfl ?_
          refine o_mov rfl rfl ?_
          refine o_mov rfl rfl ?_
          refine o_mov rfl rfl ?_
          refine o_nil ?_
          refine sSeq_normal ?_
          refine s_ret ?_
          refine sRet_ret [_, _, _] ⟨rfl, rfl, rfl, trivial⟩ ?_
          first | (exact ⟨_, (by rw [hres]; rfl), .inl ⟨rfl, (by rw [hres])⟩⟩; done) | exact ⟨rv, (by rw [hres]; rfl), (by rw [hres]; exact hnew.mono (fun x hx => List.mem_cons_of_mem _ (List.mem_append_left _ hx)))⟩

end Go.Proofs.YtfonnebpnobomaaDoor.W
namespace Go.Proofs.YtfonnebpnobomaaDoor.W
open Go Am code
set_option maxRecDepth 100000
set_option maxHeartbeats 4000000
set_option linter.unusedSimpArgs false
set_option linter.unusedVariables false
variable {E : Env} (hE : Has E)
variable (symB : ByteArray → Bool)

def In64 (z : Int) : Prop := -9223372036854775808 ≤ z ∧ z ≤ 9223372036854775807
instance (z : Int) : Decidable (In64 z) := inferInstanceAs (Decidable (_ ∧ _))
theorem w64_in {z : Int} (h : In64 z) : w64 z = z := wrap64 h.1 h.2
theorem numberR_t (z : Int) : numberR z true = ([mkInt z], 0, 0) := rfl
theorem numberR_f (z : Int) : numberR z false = ([], 0, 20) := rfl
theorem w64_eq (z : Int) : ∃ q : Int, w64 z = z - q * 18446744073709551616 ∧ In64 (w64 z) := by
  unfold w64 In64
  simp only [IntKind.wrap, IntKind.bits, IntKind.signed]
  simp
  refine ⟨⟨(z + 9223372036854775808) / 18446744073709551616, ?_⟩, ?_⟩ <;> split <;> omega
theorem sumR_eq {a b : Int} (ha : In64 a) (hb : In64 b) : sumR a b = numberR (a + b) (decide (In64 (a + b))) := by
  unfold sumR
  by_cases h : In64 (a + b)
  · rw [w64_in h]
    have : ((decide (a < 0) != decide (b < 0)) || (decide (a + b < 0) == decide (a < 0))) = true := by
      by_cases h1 : a < 0 <;> by_cases h2 : b < 0 <;> simp [h1, h2] <;> omega
    rw [this]; simp [h]
  · obtain ⟨q, h1, h2⟩ := w64_eq (a + b)
    have : ((decide (a < 0) != decide (b < 0)) || (decide (w64 (a + b) < 0) == decide (a < 0))) = false := by
      unfold In64 at *
      by_cases h3 : a < 0 <;> by_cases h4 : b < 0 <;> simp [h3, h4] <;> omega
    rw [this]; simp [h, numberR_f]
theorem diffR_eq {a b : Int} (ha : In64 a) (hb : In64 b) : diffR a b = numberR (a - b) (decide (In64 (a - b))) := by
  unfold diffR
  by_cases h : In64 (a - b)
  · rw [w64_in h]
    have : ((decide (a < 0) == decide (b < 0)) || (decide (a - b < 0) == decide (a < 0))) = true := by
      by_cases h1 : a < 0 <;> by_cases h2 : b < 0 <;> simp [h1, h2] <;> omega
    rw [this]; simp [h]
  · obtain ⟨q, h1, h2⟩ := w64_eq (a - b)
    have : ((decide (a < 0) == decide (b < 0)) || (decide (w64 (a - b) < 0) == decide (a < 0))) = false := by
      unfold In64 at *
      by_cases h3 : a < 0 <;> by_cases h4 : b < 0 <;> simp [h3, h4] <;> omega
    rw [this]; simp [h, numberR_f]
theorem prodR_eq (a b : Int) : prodR a b = numberR (a * b) (decide (a.natAbs * b.natAbs ≤ mostN a b)) := by
  unfold prodR
  by_cases h : a.natAbs * b.natAbs ≤ mostN a b
  · rw [w64_in (prod_exact h)]
  · simp [h, numberR_f]
theorem tdiv_in {x y : Int} (hx : In64 x) (hy : y ≠ 0) (hl : ¬ (x = -9223372036854775808 ∧ y = -1)) : In64 (x.tdiv y) := by
  have e := Int.natAbs_tdiv x y
  have h1 : (x.tdiv y).natAbs ≤ x.natAbs := by rw [e]; exact Nat.div_le_self _ _
  unfold In64 at *
  by_cases h2 : y.natAbs = 1
  · rcases Int.natAbs_eq y with h3 | h3
    · rw [h2] at h3; rw [h3]; simp; omega
    · rw [h2] at h3; rw [h3]; simp; omega
  · have h4 : 2 ≤ y.natAbs := by omega
    have h5 : x.natAbs / y.natAbs ≤ x.natAbs / 2 := Nat.div_le_div_left h4 (by omega)
    have e' : (x.tdiv y).natAbs = x.natAbs / y.natAbs := e
    omega
theorem quoR_eq {x y : Int} (hx : In64 x) (hy : y ≠ 0) : quoR x y = numberR (x.tdiv y) (!(x == -9223372036854775808 && y == -1)) := by
  unfold quoR
  rw [if_neg hy]
  by_cases hl : x = -9223372036854775808 ∧ y = -1
  · obtain ⟨rfl, rfl⟩ := hl; rfl
  · rw [w64_in (tdiv_in hx hy hl)]
    have : (x != -9223372036854775808 || y != -1) = (!(x == -9223372036854775808 && y == -1)) := by
      cases h1 : (x == -9223372036854775808) <;> cases h2 : (y == -1) <;> simp [bne, h1, h2]
    rw [this]
theorem remR_eq {x y : Int} (hy : y ≠ 0) : remR x y = ([mkInt (x.tmod y)], 0, 0) := by
  unfold remR; rw [if_neg hy]; rfl
/-! the law's numbers -/
theorem back1 {x y : Int} (hx : In64 x) (hy : In64 y) (h0 : y ≠ 0) (hl : ¬ (x = -9223372036854775808 ∧ y = -1)) : prodR (x.tdiv y) y = ([mkInt (x.tdiv y * y)], 0, 0) := by
  obtain ⟨h1, h2, h3, h4, h5, h6, h7⟩ := quoRem x y h0
  rw [prodR_eq]
  have : (x.tdiv y).natAbs * y.natAbs ≤ mostN (x.tdiv y) y := by
    unfold In64 at hx
    exact fits_of (by omega) (by omega)
  rw [decide_eq_true this, numberR_t]
theorem back2 {x y : Int} (hx : In64 x) (h0 : y ≠ 0) : sumR (x.tdiv y * y) (x.tmod y) = ([mkInt x], 0, 0) := by
  obtain ⟨h1, h2, h3, h4, h5, h6, h7⟩ := quoRem x y h0
  have hm : (x.tmod y).natAbs ≤ x.natAbs := by rw [Int.natAbs_tmod]; exact Nat.mod_le _ _
  unfold In64 at hx
  rw [sumR_eq (by unfold In64; omega) (by unfold In64; omega), ← h1]
  have : In64 x := hx
  simp [this, numberR_t]
theorem back3 {x y : Int} (hx : In64 x) (hy : In64 y) (hs : In64 (x + y)) : diffR (x + y) y = ([mkInt x], 0, 0) := by
  rw [diffR_eq hs hy, show x + y - y = x by omega]; simp [hx, numberR_t]
theorem back4 {x y : Int} (hx : In64 x) (hy : In64 y) (hs : In64 (x - y)) : sumR (x - y) y = ([mkInt x], 0, 0) := by
  rw [sumR_eq hs hy, show x - y + y = x by omega]; simp [hx, numberR_t]
theorem back5 {x y : Int} (hx : In64 x) (hy : y ≠ 0) (h1 : y ≠ -1) (hp : In64 (x * y)) : quoR (x * y) y = ([mkInt x], 0, 0) := by
  rw [quoR_eq hp hy, Int.mul_tdiv_cancel _ hy]
  have : (y == -1) = false := by simpa using h1
  rw [this]; simp [numberR_t]
theorem mod2 (x y : Int) : x / 2 + y / 2 + (x % 2) * (y % 2) = (x + y) / 2 := by
  rcases Int.emod_two_eq x with h | h <;> rcases Int.emod_two_eq y with k | k <;> rw [h, k] <;> omega
theorem and64 (x y : Int) : ∃ w : Int, binV .and (I64 x) (I64 y) = some (I64 w) ∧ binV .and (I64 w) (I64 1) = some (I64 ((x % 2) * (y % 2))) := by
  refine ⟨IntKind.wrap .i64 (((BitVec.ofInt 64 x &&& BitVec.ofInt 64 y).toNat : Nat) : Int), rfl, ?_⟩
  show some (I64 (IntKind.wrap .i64 (((BitVec.ofInt 64 (IntKind.wrap .i64 (((BitVec.ofInt 64 x &&& BitVec.ofInt 64 y).toNat : Nat) : Int)) &&& BitVec.ofInt 64 1).toNat : Nat) : Int))) = _
  have h1 : ∀ z : Int, BitVec.ofInt 64 (IntKind.wrap .i64 z) = BitVec.ofInt 64 z := by
    intro z
    obtain ⟨q, h, _⟩ := w64_eq z
    have h' : IntKind.wrap .i64 z = z - q * 18446744073709551616 := h
    rw [h']
    apply BitVec.eq_of_toNat_eq
    rw [BitVec.toNat_ofInt, BitVec.toNat_ofInt]
    congr 1
    simp
  rw [h1]
  have h2 : (BitVec.ofInt 64 (((BitVec.ofInt 64 x &&& BitVec.ofInt 64 y).toNat : Nat) : Int) &&& BitVec.ofInt 64 1).toNat = ((BitVec.ofInt 64 x).toNat % 2) * ((BitVec.ofInt 64 y).toNat % 2) := by
    have e1 : BitVec.ofInt 64 (((BitVec.ofInt 64 x &&& BitVec.ofInt 64 y).toNat : Nat) : Int) = BitVec.ofInt 64 x &&& BitVec.ofInt 64 y := by
      apply BitVec.eq_of_toNat_eq
      rw [BitVec.toNat_ofInt]
      have := (BitVec.ofInt 64 x &&& BitVec.ofInt 64 y).isLt
      omega
    rw [e1, BitVec.toNat_and, BitVec.toNat_and]
    have e2 : (BitVec.ofInt 64 1).toNat = 1 := by decide
    rw [e2, Nat.and_one_is_mod]
    have e3 := Nat.and_mod_two_pow (a := (BitVec.ofInt 64 x).toNat) (b := (BitVec.ofInt 64 y).toNat) (n := 1)
    rw [Nat.pow_one] at e3
    rw [e3]
    rcases Nat.mod_two_eq_zero_or_one (BitVec.ofInt 64 x).toNat with h | h <;> rcases Nat.mod_two_eq_zero_or_one (BitVec.ofInt 64 y).toNat with k | k <;> rw [h, k] <;> rfl
  rw [h2]
  have h3 : ∀ z : Int, (((BitVec.ofInt 64 z).toNat % 2 : Nat) : Int) = z % 2 := by
    intro z
    rw [BitVec.toNat_ofInt]
    omega
  rw [Int.natCast_mul, h3, h3, wrap64]
  · rcases Int.emod_two_eq x with h | h <;> rcases Int.emod_two_eq y with k | k <;> rw [h, k] <;> decide
  · rcases Int.emod_two_eq x with h | h <;> rcases Int.emod_two_eq y with k | k <;> rw [h, k] <;> decide


theorem NewL.arg {H0 H : Hp} {S : List Nat} {M : Ms} {rv : Value} {t : List Node} (h : St H0 S H M) (hn : NewL rv t M) (ht : TermOK t) : ArgIs H rv t := by
  refine ⟨?_, ht⟩
  rcases hn with ⟨rfl, rfl⟩ | ⟨b, sp, cap, row, rfl, hm, hle, rest, rfl⟩
  · exact ⟨none, 0, rfl, Nat.le_refl _, ⟨fun e he => (by cases he), fun he => absurd rfl he⟩⟩
  · obtain ⟨h1, h2, _⟩ := h.here _ _ hm
    exact ⟨_, cap, rfl, hle, SlE.own (fun e he => by obtain ⟨x, _, rfl⟩ := List.mem_map.1 he; rfl) h2 h1⟩
theorem args2 {H0 H : Hp} {S : List Nat} {M : Ms} {b : Nat} {v w : Value} {t u : List Node} (h : St H0 S H M) (hb : (b, Blk.row [v, w] true) ∈ M) (h1 : NewL v t M) (h2 : NewL w u M) (k1 : TermOK t) (k2 : TermOK u) : ArgsIs H (some ⟨b, 0, some 0⟩) [v, w] [t, u] := by
  obtain ⟨g1, g2, _⟩ := h.here _ _ hb
  refine ⟨SlE.own (rest := []) (fun e he => ?_) g2 (by simpa using g1), rfl, fun i sv t' e1 e2 => ?_⟩
  · simp at he; rcases he with rfl | rfl <;> rfl
  · match i with
    | 0 => simp at e1 e2; subst e1 e2; exact h1.arg h k1
    | 1 => simp at e1 e2; subst e1 e2; exact h2.arg h k2
    | i + 2 => simp at e1
theorem args1 {H0 H : Hp} {S : List Nat} {M : Ms} {b : Nat} {v : Value} {t : List Node} (h : St H0 S H M) (hb : (b, Blk.row [v] true) ∈ M) (h1 : NewL v t M) (k1 : TermOK t) : ArgsIs H (some ⟨b, 0, some 0⟩) [v] [t] := by
  obtain ⟨g1, g2, _⟩ := h.here _ _ hb
  refine ⟨SlE.own (rest := []) (fun e he => ?_) g2 (by simpa using g1), rfl, fun i sv t' e1 e2 => ?_⟩
  · simp at he; subst he; rfl
  · match i with
    | 0 => simp at e1 e2; subst e1 e2; exact h1.arg h k1
    | i + 1 => simp at e1
theorem NewL.one {rv : Value} {t : List Node} {M : Ms} (h : NewL rv t M) : oneCell rv = true := by
  rcases h with ⟨h, _⟩ | ⟨_, _, _, _, h, _⟩ <;> rw [h] <;> rfl
/-! the table's entries -/
theorem ba_self (s : ByteArray) : (s == s) = true := by
  cases s with
  | mk d => exact beq_self_eq_true d
theorem lookP_split {s : ByteArray} {v : Value} : ∀ {a : List (ByteArray × Value)} {b : List (ByteArray × Value)}, lookP s a = none → lookP s (a ++ (s, v) :: b) = some v := by
  intro a
  induction a with
  | nil => intro b _; show (if (s == s) = true then some v else lookP s b) = _; rw [if_pos (ba_self s)]
  | cons p a ih =>
    intro b h
    rw [List.cons_append]
    unfold lookP at h ⊢
    split at h
    · cases h
    · rename_i hp
      rw [if_neg hp]; exact ih h
theorem table_at (k1 k2 k3 k4 k5 k6 : Nat) {i : Nat} (hi : i < 18) {e : List Value} {nm : ByteArray} (he : (table k1 k2 k3 k4 k5 k6)[i]? = some e) (hn : nameOf e = nm) : lookP nm (psT (table k1 k2 k3 k4 k5 k6)) = some (.agg ⟨e⟩) := by
  have hlt : i < (table k1 k2 k3 k4 k5 k6).length := hi
  have hnm : names[i]? = some nm := by
    rw [← names_eq k1 k2 k3 k4 k5 k6, List.getElem?_map, he, Option.map_some, hn]
  have h0 := table_new k1 k2 k3 k4 k5 k6 hi hnm
  have hsp : table k1 k2 k3 k4 k5 k6 = (table k1 k2 k3 k4 k5 k6).take i ++ e :: (table k1 k2 k3 k4 k5 k6).drop (i + 1) := by
    rw [List.getElem?_eq_getElem hlt] at he
    cases he
    rw [← List.drop_eq_getElem_cons hlt, List.take_append_drop]
  have hps : psT (table k1 k2 k3 k4 k5 k6) = psT ((table k1 k2 k3 k4 k5 k6).take i) ++ (nm, .agg ⟨e⟩) :: psT ((table k1 k2 k3 k4 k5 k6).drop (i + 1)) := by
    conv => lhs; rw [hsp]
    unfold psT
    rw [List.map_append, List.map_cons, hn]
  rw [hps]
  exact lookP_split h0
/-! numbers as arguments -/
theorem ok_int (z : Int) : TermOK [mkInt z] := ⟨fun x hx => by simp at hx; subst hx; show (0 : Int) ≤ _; decide, by show 1 ≤ _; decide⟩
theorem sym_int (E : Env) (z : Int) (H : Hp) : SymsOK E symB [mkInt z] H := fun x hx => by
  simp at hx; subst hx; rintro (h | h) <;> cases h
theorem valErr_int (z : Int) : valErr symB [mkInt z] = 0 := by
  have hc : ∀ nm, check symB [mkInt z] nm = (0, 0) := by
    intro nm
    simp [check, chkGo, popZ, kindBad, mkInt, fieldsBad, numbersErr, rangeBad, nLow, nHigh, fN, fS, fT, fLeast, fMost, maxL, famFirst, familyErr]
  simp only [valErr, hc, valueAt, place, form]
  simp [isValue, mkInt]

include hE in
theorem call_spec (name : ByteArray) (av : Value) (r : List Node × Int × Int) (H : Hp) (h : ∀ H1, St H [] H1 [] → Sc E 13 [.string name, av] H1 [] fun v M => TupIs v r M) : Sc E 8 [.string name, av] H [] fun v M => ∃ rv, v = .tuple ⟨[rv, I64 r.2.2]⟩ ∧ NewL rv r.1 M := by
  refine sc_body hE.h8 rfl ?_
  show Ss E _ _ _ c8.body _ _ _
  unfold c8
  refine s_seq ?_
  refine s_ops ?_
  refine o_mov rfl rfl ?_
  refine o_mov rfl rfl ?_
  refine o_nil ?_
  refine sSeq_normal ?_
  refine s_seq ?_
  refine s_ops ?_
  refine o_mov rfl rfl ?_
  refine o_mov rfl rfl ?_
  refine o_call1 rfl (ha2 rfl rfl) rfl (fun H1 hH1 => (h H1 hH1).mono ?_)
  rintro v M1 ⟨rv, rfl, hnew⟩
  refine o_mov rfl rfl ?_
  refine o_ext rfl rfl rfl ?_
  refine o_ext rfl rfl rfl ?_
  refine o_ext rfl rfl rfl ?_
  refine o_mov rfl rfl ?_
  refine o_mov rfl rfl ?_
  refine o_mov rfl rfl ?_
  refine o_nil ?_
  refine sSeq_normal ?_
  refine s_seq ?_
  refine s_ops ?_
  refine o_mov rfl rfl ?_
  refine o_mov rfl rfl ?_
  refine o_mov rfl rfl ?_
  refine o_mov rfl rfl ?_
  refine o_nil ?_
  refine sSeq_normal ?_
  refine s_ret ?_
  refine sRet_ret [_, _] ⟨rfl, rfl, trivial⟩ ?_
  exact ⟨rv, rfl, hnew.mono (fun x hx => List.mem_append_left _ hx)⟩


include hE in
theorem num_spec {i : Nat} {nm : List UInt8} {gf : FuncId} (hi : i < 18) (he : ∀ k1 k2 k3 k4 k5 k6, (table k1 k2 k3 k4 k5 k6)[i]? = some (entry nm 2 true (fnV gf))) (x y : Int) (R : List Node × Int × Int) (hspec : ∀ sv, oneCell sv = true → ∀ H, Sc E gf [.agg ⟨[sv, I64 x, I64 y]⟩] H [] fun v M => ResIs v R M)
    (oa : Option Addr) (ca : Nat) (svs : List Value) (H : Hp) (hargs : ArgsIs H oa svs [[mkInt x], [mkInt y]]) : Sc E 8 [.string ⟨⟨nm⟩⟩, .slice oa 2 ca] H [] fun v M => ∃ rv, v = .tuple ⟨[rv, I64 R.2.2]⟩ ∧ NewL rv R.1 M := by
  have hb : badArg (fun _ => false) [[mkInt x], [mkInt y]] 2 0 = none := by simp [badArg, valErr_int]
  have hn : notInt [[mkInt x], [mkInt y]] 2 0 = -1 := by simp [notInt, mkInt]
  have hR : applyR (fun _ => false) 2 true [[mkInt x], [mkInt y]] R = R := by
    unfold applyR
    rw [show ([[mkInt x], [mkInt y]] : List (List Node)).length = 2 from rfl, hb, hn]
    simp
  refine call_spec hE ⟨⟨nm⟩⟩ (.slice oa 2 ca) R H (fun H1 hH1 => ?_)
  rw [← hR]
  refine Apply_spec hE (fun _ => false) ⟨⟨nm⟩⟩ [[mkInt x], [mkInt y]] svs oa ca H1 (by show 2 ≤ _; decide) (hargs.mono hH1) (fun t ht => ?_) 2 true R gf (fun _ _ _ _ _ _ => []) (fun _ => rfl) (fun k1 k2 k3 k4 k5 k6 => ⟨⟨⟨nm⟩⟩, table_at k1 k2 k3 k4 k5 k6 hi (he k1 k2 k3 k4 k5 k6) rfl⟩) ?_
  · simp at ht; rcases ht with rfl | rfl <;> exact sym_int (fun _ => false) E _ _
  · intro _ _ a b hab k1 k2 k3 k4 k5 k6 H2 _ _ _ _ _ _ _ _
    obtain ⟨h1, h2⟩ := (hab rfl).2 [mkInt x] [mkInt y] (mkInt x) (mkInt y) rfl rfl rfl rfl
    subst h1 h2
    exact hspec _ rfl H2
include hE in
theorem Equal_new {H0 H : Hp} {S : List Nat} {M : Ms} {v w : Value} {a b : List Node} (h : St H0 S H M) (ha : NewL v a M) (hb : NewL w b M) (hta : TermOK a) (htb : TermOK b) (hl : a.length ≤ 1000000000) : Sc E 11 [v, w] H [] fun v _ => v = .bool (eqFrom a b) := by
  obtain ⟨oa, ca, rfl, _, h1⟩ := (ha.arg h hta).is
  obtain ⟨ob, cb, rfl, _, h2⟩ := (hb.arg h htb).is
  exact Equal_spec hE a b hl H oa ob ca cb h1 h2
theorem eq_int (z : Int) : eqFrom [mkInt z] [mkInt z] = true := by simp [eqFrom, nodeEq, mkInt]

end Go.Proofs.YtfonnebpnobomaaDoor.W
namespace Go.Proofs.YtfonnebpnobomaaDoor.W
open Go Am code
set_option maxRecDepth 100000
set_option maxHeartbeats 4000000
set_option linter.unusedSimpArgs false
set_option linter.unusedVariables false
variable {E : Env} (hE : Has E)

theorem evB {L : Ls} {x : Operand} {w q r : Bool} (h : evL L x = some (gv w (.bool q))) (hw : w = true) (hq : q = r) : evL L x = some (.bool r) := by subst hq; rw [h, gv_true hw]
theorem fill2 {v w z1 z2 : Value} {t u : List Node} {M M2 : Ms} (h1 : NewL v t M) (h2 : NewL w u M2) : fillA [z1, z2] [(0, 1, v), (1, 1, w)] = some [v, w] := by
  obtain ⟨_, _, rfl⟩ := newL_len h1
  obtain ⟨_, _, rfl⟩ := newL_len h2
  rfl
theorem fill1 {v z1 : Value} {t : List Node} {M : Ms} (h1 : NewL v t M) : fillA [z1] [(0, 1, v)] = some [v] := by
  obtain ⟨_, _, rfl⟩ := newL_len h1
  rfl
theorem shr1 (a : Int) : binV .shr (I64 a) (.int .u64 1) = some (I64 (a / 2)) := by
  simp only [binV, IntKind.bits]
  rw [if_neg (by decide), Int.fdiv_eq_ediv_of_nonneg _ (by decide)]
  rfl
theorem binQuo {a b : Nat} (ha : a < 18446744073709551616) (hb : 0 < b) : binV .quo (.int .u64 (a : Int)) (.int .u64 (b : Int)) = some (.int .u64 ((a / b : Nat) : Int)) := by
  simp only [binV, binInt, if_true]
  rw [if_neg (by omega)]
  have : ((a : Int).tdiv (b : Int)) = ((a / b : Nat) : Int) := rfl
  have hle : a / b ≤ a := Nat.div_le_self _ _
  rw [this]
  generalize a / b = c at hle ⊢
  rw [wrapU (by omega) (by omega)]
theorem sizeR_abs (z : Int) : sizeR z = (z.natAbs : Int) := by unfold sizeR; split <;> omega
theorem cond_of {b : Bool} (h : ((cond b 0 20 : Int) == 0) = true) : b = true := by
  cases b
  · exact absurd h (by decide)
  · rfl
theorem numberR_e (z : Int) (b : Bool) : (numberR z b).2.2 = cond b 0 20 := by cases b <;> rfl
theorem half_in (x y : Int) : decide (In64 (x + y)) = (decide ((x + y) / 2 ≥ -4611686018427387904) && decide ((x + y) / 2 < 4611686018427387904)) := by
  generalize x + y = z
  have h : In64 z ↔ (z / 2 ≥ -4611686018427387904 ∧ z / 2 < 4611686018427387904) := by unfold In64; omega
  rw [← Bool.decide_and]
  exact decide_eq_decide.2 h
def Base (x y : Int) (b : Nat) (M : Ms) : Prop := ∃ vx vy, (b, Blk.row [vx, vy] true) ∈ M ∧ NewL vx [mkInt x] M ∧ NewL vy [mkInt y] M
theorem Base.mono {x y : Int} {b : Nat} {M M' : Ms} (h : Base x y b M) (hs : ∀ z ∈ M, z ∈ M') : Base x y b M' := by
  obtain ⟨vx, vy, h1, h2, h3⟩ := h
  exact ⟨vx, vy, hs _ h1, h2.mono hs, h3.mono hs⟩

end Go.Proofs.YtfonnebpnobomaaDoor.W
namespace Go.Proofs.YtfonnebpnobomaaDoor.W
open Go Am code
set_option maxRecDepth 100000
set_option maxHeartbeats 4000000
set_option linter.unusedSimpArgs false
set_option linter.unusedVariables false
variable {E : Env} (hE : Has E)
variable (symB : ByteArray → Bool)

theorem args1A {H0 H : Hp} {S : List Nat} {M : Ms} {b : Nat} {v : Value} {t : List Node} (h : St H0 S H M) (hb : (b, Blk.row [v] true) ∈ M) (h1 : ArgIs H v t) : ArgsIs H (some ⟨b, 0, some 0⟩) [v] [t] := by
  obtain ⟨g1, g2, _⟩ := h.here _ _ hb
  have ho : ∃ ob cap, v = .slice ob t.length cap := by
    obtain ⟨ob, cap, e, _⟩ := h1.is
    exact ⟨ob, cap, e⟩
  refine ⟨SlE.own (rest := []) (fun e he => ?_) g2 (by simpa using g1), rfl, fun i sv t' e1 e2 => ?_⟩
  · simp at he; subst he; rfl
  · match i with
    | 0 => simp at e1 e2; subst e1 e2; exact h1
    | i + 1 => simp at e1
theorem args2A {H0 H : Hp} {S : List Nat} {M : Ms} {b : Nat} {v w : Value} {t u : List Node} (h : St H0 S H M) (hb : (b, Blk.row [v, w] true) ∈ M) (h1 : ArgIs H v t) (h2 : ArgIs H w u) : ArgsIs H (some ⟨b, 0, some 0⟩) [v, w] [t, u] := by
  obtain ⟨g1, g2, _⟩ := h.here _ _ hb
  refine ⟨SlE.own (rest := []) (fun e he => ?_) g2 (by simpa using g1), rfl, fun i sv t' e1 e2 => ?_⟩
  · simp at he; rcases he with rfl | rfl <;> rfl
  · match i with
    | 0 => simp at e1 e2; subst e1 e2; exact h1
    | 1 => simp at e1 e2; subst e1 e2; exact h2
    | i + 2 => simp at e1
include hE in
theorem one_spec {i : Nat} {nm : List UInt8} {gf : FuncId} {cap : Nat → Nat → Nat → Nat → Nat → Nat → List Value} (hi : i < 18) (he : ∀ k1 k2 k3 k4 k5 k6, (table k1 k2 k3 k4 k5 k6)[i]? = some [.string ⟨⟨nm⟩⟩, I64 1, .bool false, .func (.func gf) #[] ⟨cap k1 k2 k3 k4 k5 k6⟩]) (t : List Node) (hv : valErr symB t = 0) (R : List Node × Int × Int)
    (oa : Option Addr) (ca : Nat) (svs : List Value) (H : Hp) (hargs : ArgsIs H oa svs [t]) (hsym : SymsOK E symB t H)
    (hdo : ∀ (a b : Int) k1 k2 k3 k4 k5 k6 H1, SymsOK E symB t H1 → ArgsIs H1 oa svs [t] → KF H1 k1 4 → KF H1 k2 5 → KF H1 k3 1 → KF H1 k4 2 → KF H1 k5 3 → KF H1 k6 6 → Sc E gf (.agg ⟨[.slice oa 1 ca, I64 a, I64 b]⟩ :: cap k1 k2 k3 k4 k5 k6) H1 [] fun v M => ResIs v R M) :
    Sc E 8 [.string ⟨⟨nm⟩⟩, .slice oa 1 ca] H [] fun v M => ∃ rv, v = .tuple ⟨[rv, I64 R.2.2]⟩ ∧ NewL rv R.1 M := by
  have hb : badArg symB [t] 1 0 = none := by simp [badArg, hv]
  have hR : applyR symB 1 false [t] R = R := by
    unfold applyR
    rw [show ([t] : List (List Node)).length = 1 from rfl, hb]
    simp
  refine call_spec hE ⟨⟨nm⟩⟩ (.slice oa 1 ca) R H (fun H1 hH1 => ?_)
  rw [← hR]
  refine Apply_spec hE symB ⟨⟨nm⟩⟩ [t] svs oa ca H1 (by show 1 ≤ _; decide) (hargs.mono hH1) (fun t' ht => by simp at ht; subst ht; exact hsym.mono hH1) 1 false R gf cap (fun h => (by cases h)) (fun k1 k2 k3 k4 k5 k6 => ⟨⟨⟨nm⟩⟩, table_at k1 k2 k3 k4 k5 k6 hi (he k1 k2 k3 k4 k5 k6) rfl⟩) ?_
  intro _ _ a b _ k1 k2 k3 k4 k5 k6 H2 hs hA f1 f2 f3 f4 f5 f6
  exact hdo a b k1 k2 k3 k4 k5 k6 H2 (hs t (by simp)) hA f1 f2 f3 f4 f5 f6
def predNames : List ByteArray := [⟨#[]⟩, ⟨#[110, 117, 109, 98, 101, 114, 63]⟩, ⟨#[98, 111, 111, 108, 101, 97, 110, 63]⟩, ⟨#[115, 121, 109, 98, 111, 108, 63]⟩, ⟨#[110, 117, 108, 108, 63]⟩, ⟨#[112, 97, 105, 114, 63]⟩, ⟨#[112, 114, 111, 99, 101, 100, 117, 114, 101, 63]⟩]
include hE in
theorem pred_spec (k : Nat) (h1 : 1 ≤ k) (h2 : k ≤ 6) (nm : ByteArray) (hnm : predNames[k]? = some nm) (t : List Node) (hp : 0 < t.length) (hv : valErr symB t = 0) (oa : Option Addr) (ca : Nat) (svs : List Value) (H : Hp) (hargs : ArgsIs H oa svs [t]) (hsym : SymsOK E symB t H) : Sc E 8 [.string nm, .slice oa 1 ca] H [] fun v M => ∃ rv, v = .tuple ⟨[rv, I64 0]⟩ ∧ NewL rv [mkBool (whatOf (t[0]'hp) == (k : Int))] M := by
  match k with
  | 0 => omega
  | 1 =>
    simp [predNames] at hnm; subst hnm
    exact one_spec hE symB (i := 12) (nm := [110, 117, 109, 98, 101, 114, 63]) (gf := 27) (cap := fun k1 k2 k3 k4 k5 k6 => [.pointer (some ⟨k3, 0, none⟩)]) (by decide) (fun _ _ _ _ _ _ => rfl) t hv (truthR (whatOf (t[0]'hp) == 1)) oa ca svs H hargs hsym (fun a b k1 k2 k3 k4 k5 k6 H1 _ hA f1 f2 f3 f4 f5 f6 => opIs_spec hE hp 1 a b k3 H1 f3.1 f3.2 oa 1 ca (by decide) svs [t] hA rfl)
  | 2 =>
    simp [predNames] at hnm; subst hnm
    exact one_spec hE symB (i := 13) (nm := [98, 111, 111, 108, 101, 97, 110, 63]) (gf := 27) (cap := fun k1 k2 k3 k4 k5 k6 => [.pointer (some ⟨k4, 0, none⟩)]) (by decide) (fun _ _ _ _ _ _ => rfl) t hv (truthR (whatOf (t[0]'hp) == 2)) oa ca svs H hargs hsym (fun a b k1 k2 k3 k4 k5 k6 H1 _ hA f1 f2 f3 f4 f5 f6 => opIs_spec hE hp 2 a b k4 H1 f4.1 f4.2 oa 1 ca (by decide) svs [t] hA rfl)
  | 3 =>
    simp [predNames] at hnm; subst hnm
    exact one_spec hE symB (i := 14) (nm := [115, 121, 109, 98, 111, 108, 63]) (gf := 27) (cap := fun k1 k2 k3 k4 k5 k6 => [.pointer (some ⟨k5, 0, none⟩)]) (by decide) (fun _ _ _ _ _ _ => rfl) t hv (truthR (whatOf (t[0]'hp) == 3)) oa ca svs H hargs hsym (fun a b k1 k2 k3 k4 k5 k6 H1 _ hA f1 f2 f3 f4 f5 f6 => opIs_spec hE hp 3 a b k5 H1 f5.1 f5.2 oa 1 ca (by decide) svs [t] hA rfl)
  | 4 =>
    simp [predNames] at hnm; subst hnm
    exact one_spec hE symB (i := 10) (nm := [110, 117, 108, 108, 63]) (gf := 27) (cap := fun k1 k2 k3 k4 k5 k6 => [.pointer (some ⟨k1, 0, none⟩)]) (by decide) (fun _ _ _ _ _ _ => rfl) t hv (truthR (whatOf (t[0]'hp) == 4)) oa ca svs H hargs hsym (fun a b k1 k2 k3 k4 k5 k6 H1 _ hA f1 f2 f3 f4 f5 f6 => opIs_spec hE hp 4 a b k1 H1 f1.1 f1.2 oa 1 ca (by decide) svs [t] hA rfl)
  | 5 =>
    simp [predNames] at hnm; subst hnm
    exact one_spec hE symB (i := 11) (nm := [112, 97, 105, 114, 63]) (gf := 27) (cap := fun k1 k2 k3 k4 k5 k6 => [.pointer (some ⟨k2, 0, none⟩)]) (by decide) (fun _ _ _ _ _ _ => rfl) t hv (truthR (whatOf (t[0]'hp) == 5)) oa ca svs H hargs hsym (fun a b k1 k2 k3 k4 k5 k6 H1 _ hA f1 f2 f3 f4 f5 f6 => opIs_spec hE hp 5 a b k2 H1 f2.1 f2.2 oa 1 ca (by decide) svs [t] hA rfl)
  | 6 =>
    simp [predNames] at hnm; subst hnm
    exact one_spec hE symB (i := 15) (nm := [112, 114, 111, 99, 101, 100, 117, 114, 101, 63]) (gf := 27) (cap := fun k1 k2 k3 k4 k5 k6 => [.pointer (some ⟨k6, 0, none⟩)]) (by decide) (fun _ _ _ _ _ _ => rfl) t hv (truthR (whatOf (t[0]'hp) == 6)) oa ca svs H hargs hsym (fun a b k1 k2 k3 k4 k5 k6 H1 _ hA f1 f2 f3 f4 f5 f6 => opIs_spec hE hp 6 a b k6 H1 f6.1 f6.2 oa 1 ca (by decide) svs [t] hA rfl)
  | k + 7 => omega
include hE in
theorem not_spec (t : List Node) (hp : 0 < t.length) (hv : valErr symB t = 0) (oa : Option Addr) (ca : Nat) (svs : List Value) (H : Hp) (hargs : ArgsIs H oa svs [t]) (hsym : SymsOK E symB t H) : Sc E 8 [.string ⟨⟨[110, 111, 116]⟩⟩, .slice oa 1 ca] H [] fun v M => ∃ rv, v = .tuple ⟨[rv, I64 0]⟩ ∧ NewL rv [mkBool (((t[0]'hp).kind == 2) && ((t[0]'hp).n == 0))] M :=
  one_spec hE symB (i := 17) (nm := [110, 111, 116]) (gf := 41) (cap := fun _ _ _ _ _ _ => []) (by decide) (fun _ _ _ _ _ _ => rfl) t hv (truthR (((t[0]'hp).kind == 2) && ((t[0]'hp).n == 0))) oa ca svs H hargs hsym (fun a b k1 k2 k3 k4 k5 k6 H1 _ hA f1 f2 f3 f4 f5 f6 => opNot_spec hE hp a b H1 oa 1 ca (by decide) svs [t] hA rfl)
theorem ok_bool (p : Bool) : TermOK [mkBool p] := ⟨fun x hx => by simp at hx; subst hx; show (0 : Int) ≤ _; decide, by show 1 ≤ _; decide⟩
theorem sym_bool (E : Env) (p : Bool) (H : Hp) : SymsOK E symB [mkBool p] H := fun x hx => by
  simp at hx; subst hx; rintro (h | h) <;> cases h
theorem valErr_bool (p : Bool) : valErr symB [mkBool p] = 0 := by
  have hc : ∀ nm, check symB [mkBool p] nm = (0, 0) := by
    intro nm
    cases p <;> simp [check, chkGo, popZ, kindBad, mkBool, fieldsBad, numbersErr, rangeBad, nLow, nHigh, fN, fS, fT, fLeast, fMost, maxL, famFirst, familyErr]
  simp only [valErr, hc, valueAt, place, form]
  simp [isValue, mkBool]
theorem eq_bool (p : Bool) : eqFrom [mkBool p] [(⟨2, 0, if p then 1 else 0, ⟨#[]⟩, 0, 0⟩ : Node)] = true := by simp [eqFrom, nodeEq, mkBool]

end Go.Proofs.YtfonnebpnobomaaDoor.W
namespace Go.Proofs.YtfonnebpnobomaaDoor.W
open Go Am code
set_option maxRecDepth 100000
set_option maxHeartbeats 4000000
set_option linter.unusedSimpArgs false
set_option linter.unusedVariables false
variable {E : Env} (hE : Has E)
variable (symB : ByteArray → Bool)

theorem what_err {t : List Node} (h : (what symB t).2 ≠ 0) : (what symB t).1 = 0 := by
  unfold what at h ⊢
  split
  · rfl
  · rename_i hv
    rw [if_neg hv] at h; exact absurd rfl h
theorem what_ok {t : List Node} (h : (what symB t).2 = 0) : valErr symB t = 0 := by
  unfold what at h
  by_cases hv : valErr symB t ≠ 0
  · rw [if_pos hv] at h; exact absurd h hv
  · exact Decidable.not_not.1 hv
theorem what_fst {t : List Node} (h : valErr symB t = 0) (hp : 0 < t.length) : (what symB t).1 = whatOf (t[0]'hp) := by
  unfold what; rw [if_neg (by simp [h])]; simp [hp]
theorem beq_comm_int (a b : Int) : (a == b) = (b == a) := by
  by_cases h : a = b
  · subst h; rfl
  · rw [beq_false_of_ne h, beq_false_of_ne (Ne.symm h)]
theorem isBool_what (x : Node) : (cond (whatOf x == 2) (x.n == 0) false) = ((x.kind == 2) && (x.n == 0)) := by
  unfold whatOf
  by_cases h : x.kind = 8 ∨ x.kind = 6
  · rw [if_pos h]
    have : (x.kind == 2) = false := by rcases h with h | h <;> rw [h] <;> rfl
    rw [this]; rfl
  · rw [if_neg h]
    cases (x.kind == 2) <;> rfl

end Go.Proofs.YtfonnebpnobomaaDoor.W
namespace Go.Proofs.YtfonnebpnobomaaDoor.W
open Go Am code
set_option maxRecDepth 100000
set_option maxHeartbeats 4000000
set_option linter.unusedSimpArgs false
set_option linter.unusedVariables false
variable {E : Env} (hE : Has E)
variable (symB : ByteArray → Bool)
include hE in
theorem grow_spec (m : Nat) (h0 : 0 < m) (h1 : m ≤ 1000000) (H : Hp) : Sc E 60 [.slice none 0 0, I64 (m : Nat)] H [] fun v M => ∃ b row, v = .slice (some ⟨b, 0, some 7⟩) 0 m ∧ (b, Blk.row row true) ∈ M := by
  refine sc_body hE.h60 rfl ?_
  show Ss E _ _ _ c60.body _ _ _
  unfold c60
  refine s_seq ?_
  refine s_ops ?_
  refine o_mov rfl rfl ?_
  refine o_nil ?_
  refine sSeq_normal ?_
  refine s_seq ?_
  refine s_seq ?_
  refine s_ops ?_
  refine o_mov rfl rfl ?_
  refine o_bin rfl rfl rfl rfl ?_
  refine o_nil ?_
  refine sSeq_normal ?_
  refine s_cond rfl (fun hc0 => ?_) (fun hc0 => ?_)
  · exfalso
    simp at hc0
    omega
    done
  · skip
    refine s_skip ?_
    refine sSeq_normal ?_
    refine s_seq ?_
    refine s_seq ?_
    refine s_ops ?_
    refine o_mov rfl rfl ?_
    refine o_mov rfl rfl ?_
    refine o_capnil rfl rfl ?_
    refine o_mov rfl rfl ?_
    refine o_lnl rfl rfl ?_
    refine o_bin rfl rfl rfl rfl ?_
    refine o_bin (v := I64 (m : Nat)) rfl rfl (by simp only [binV, binInt, if_true]; rw [show IntKind.wrap .i64 (((0 : Nat) : Int) - ((0 : Nat) : Int)) = 0 from by decide, Int.sub_zero, wrap64 (by omega) (by omega)]) rfl ?_
    refine o_mov rfl rfl ?_
    refine o_nil ?_
    refine sSeq_normal ?_
    refine s_seq ?_
    refine s_ops ?_
    refine o_mov rfl rfl ?_
    refine o_bin rfl rfl rfl rfl ?_
    refine o_nil ?_
    refine sSeq_normal ?_
    refine s_cond rfl (fun hc1 => ?_) (fun hc1 => ?_)
    · skip
      refine s_ops ?_
      refine o_mov rfl rfl ?_
      refine o_mov rfl rfl ?_
      refine o_capnil rfl rfl ?_
      refine o_slnil rfl rfl rfl ?_
      refine o_mov rfl rfl ?_
      refine o_apz rfl rfl h0 (by omega) (by decide) rfl (fun b20 => ?_)
      refine o_mov rfl rfl ?_
      refine o_lnl rfl rfl ?_
      refine o_slTo (m := 0) rfl rfl (Nat.zero_le _) (.inr (by rfl)) rfl ?_
      refine o_mov rfl rfl ?_
      refine o_nil ?_
      refine sSeq_normal ?_
      refine s_seq ?_
      refine s_ops ?_
      refine o_mov rfl rfl ?_
      refine o_mov rfl rfl ?_
      refine o_nil ?_
      refine sSeq_normal ?_
      refine s_ret ?_
      refine sRet_ret [_] ⟨rfl, trivial⟩ ?_
      exact ⟨b20, _, rfl, .head _⟩
    · exfalso
      simp at hc1
      omega
      done


theorem own_newL {sv : Value} {t : List Node} {Mo M : Ms} (h : Own 6 sv (t.map Node.cells).flatten Mo) (hs : ∀ x ∈ Mo, x ∈ M) : NewL sv t M := by
  have hfl := flatten_len (size := 6) (es := t.map Node.cells) (fun e he => by obtain ⟨x, _, rfl⟩ := List.mem_map.1 he; rfl)
  rw [List.length_map] at hfl
  rcases h with ⟨_, rfl, h3⟩ | ⟨b, len, cap, sp, row, rfl, rfl, h3, h4, h5, h6⟩
  · rw [h3] at hfl
    have : t.length = 0 := by simp at hfl; omega
    exact .inl ⟨rfl, List.eq_nil_of_length_eq_zero this⟩
  · have hl : len = t.length := by omega
    subst hl
    refine .inr ⟨b, some sp, cap, row, rfl, hs _ (by simp), ?_, row.drop (t.length * 6), ?_⟩
    · rcases h6 with ⟨_, rfl⟩ | ⟨_, _, h⟩
      · exact Nat.le_refl _
      · exact h
    · rw [← h4, List.take_append_drop]
theorem args3A {H0 H : Hp} {S : List Nat} {M : Ms} {b : Nat} {v w z : Value} {t u s : List Node} (h : St H0 S H M) (hb : (b, Blk.row [v, w, z] true) ∈ M) (h1 : ArgIs H v t) (h2 : ArgIs H w u) (h3 : ArgIs H z s) : ArgsIs H (some ⟨b, 0, some 0⟩) [v, w, z] [t, u, s] := by
  obtain ⟨g1, g2, _⟩ := h.here _ _ hb
  refine ⟨SlE.own (rest := []) (fun e he => ?_) g2 (by simpa using g1), rfl, fun i sv t' e1 e2 => ?_⟩
  · simp at he; rcases he with rfl | rfl | rfl <;> rfl
  · match i with
    | 0 => simp at e1 e2; subst e1 e2; exact h1
    | 1 => simp at e1 e2; subst e1 e2; exact h2
    | 2 => simp at e1 e2; subst e1 e2; exact h3
    | i + 3 => simp at e1
theorem take_flat (ts : List (List Node)) {k : Nat} {t : List Node} (h : ts[k]? = some t) : (ts.take (k + 1)).flatten = (ts.take k).flatten ++ t := by
  obtain ⟨hk, rfl⟩ := List.getElem?_eq_some_iff.1 h
  rw [List.take_succ_eq_append_getElem hk, List.flatten_append]
  simp
theorem take_le (ts : List (List Node)) (k : Nat) : (ts.take k).flatten.length ≤ ts.flatten.length := by
  conv => rhs; rw [← List.take_append_drop k ts, List.flatten_append, List.length_append]
  omega

include hE in
theorem concat_spec (ts : List (List Node)) (svs : List Value) (oa : Option Addr) (ca : Nat) (H : Hp) (hargs : ArgsIs H oa svs ts) (hn : ts.length ≤ 1000000) (h0 : 0 < ts.flatten.length) (hbig : ts.flatten.length ≤ 1000000) : Sc E 52 [.slice oa ts.length ca] H [] fun v M => NewL v ts.flatten M := by
  refine sc_body hE.h52 rfl ?_
  show Ss E _ _ _ c52.body _ _ _
  unfold c52
  refine s_seq ?_
  refine s_ops ?_
  refine o_mov rfl rfl ?_
  refine o_nil ?_
  refine sSeq_normal ?_
  refine s_seq ?_
  refine s_ops ?_
  refine o_mov rfl rfl ?_
  refine o_nil ?_
  refine sSeq_normal ?_
  refine s_seq ?_
  refine s_seq ?_
  refine s_ops ?_
  refine o_mov rfl rfl ?_
  refine o_lnl rfl rfl ?_
  refine o_mov rfl rfl ?_
  refine o_nil ?_
  refine sSeq_normal ?_
  refine s_block ?_
  refine s_iter (α := Nat) (fun k => ts.length - k) (fun k => [(0, .slice oa ts.length ca), (3, I64 ((ts.take k).flatten.length : Nat)), (9, .slice oa ts.length ca), (10, I64 (ts.length : Nat)), (11, I64 (k : Nat))]) (fun _ => []) (fun k => k ≤ ts.length) 0 (subCons rfl (subCons rfl (subCons rfl (subCons rfl (subCons rfl subNil))))) (List.nil_sublist _) (Nat.zero_le _) ?_
  intro k hk
  refine s_seq ?_
  refine s_ops ?_
  refine o_bin rfl rfl rfl rfl ?_
  refine o_nil ?_
  refine sSeq_normal ?_
  refine s_seq ?_
  refine s_cond rfl (fun hc0 => ?_) (fun hc0 => ?_)
  · have hkk : k < ts.length := by simp at hc0; omega
    obtain ⟨t, ht⟩ : ∃ t, ts[k]? = some t := ⟨ts[k], List.getElem?_eq_getElem hkk⟩
    obtain ⟨ob, cap, g1, g2, g3, g4, hcap, hsl, hok⟩ := hargs.at ht
    have htf := take_flat ts ht
    have htl := take_le ts (k + 1)
    rw [htf, List.length_append] at htl
    refine s_skip ?_
    refine sSeq_normal ?_
    refine s_seq ?_
    refine s_block ?_
    refine s_seq ?_
    refine s_ops ?_
    refine o_iad rfl rfl hkk g1 rfl ?_
    refine o_ld1_old rfl g2 (by simp) g4 rfl ?_
    refine o_mov rfl rfl ?_
    refine o_nil ?_
    refine sSeq_normal ?_
    refine s_seq ?_
    refine s_ops ?_
    refine o_mov rfl rfl ?_
    refine o_mov rfl rfl ?_
    refine o_lnl rfl rfl ?_
    refine o_bin (v := I64 ((ts.take (k + 1)).flatten.length : Nat)) rfl rfl (by simp only [binV, binInt, if_true]; rw [wrap64 (by omega) (by omega), htf, List.length_append]; rfl) rfl ?_
    refine o_mov rfl rfl ?_
    refine o_nil ?_
    refine sSeq_normal ?_
    refine s_seq ?_
    refine s_ops ?_
    refine o_mov rfl rfl ?_
    refine o_bin rfl rfl rfl rfl ?_
    refine o_nil ?_
    refine sSeq_normal ?_
    refine s_cond rfl (fun hc1 => ?_) (fun hc1 => ?_)
    · exfalso
      simp at hc1
      omega
      done
    · skip
      refine s_skip ?_
      refine sBlock_normal ?_
      refine sSeq_normal ?_
      refine s_ops ?_
      refine o_bin (v := I64 (k + 1 : Nat)) rfl rfl (by simp only [binV, binInt, if_true]; rw [wrap64 (by omega) (by omega)]; rfl) rfl ?_
      refine o_mov rfl rfl ?_
      refine o_nil ?_
      exact sIter_next (k + 1) (by omega) (subCons rfl (subCons rfl (subCons rfl (subCons rfl (subCons rfl subNil))))) (List.nil_sublist _) hkk
  · have hkk : k = ts.length := by simp at hc0; omega
    subst hkk
    rw [List.take_length]
    refine s_exit ?_
    refine sSeq_exit ?_
    refine sIter_exit ?_
    refine sBlock_exit ?_
    refine sSeq_normal ?_
    refine s_seq ?_
    refine s_ops ?_
    refine o_mov rfl rfl ?_
    refine o_call1 rfl (ha2 rfl rfl) rfl (fun H1 _ => (grow_spec hE ts.flatten.length h0 hbig H1).mono ?_)
    rintro v M1 ⟨bg, row, rfl, hbg⟩
    refine o_mov rfl rfl ?_
    refine o_nil ?_
    refine sSeq_normal ?_
    refine s_seq ?_
    refine s_seq ?_
    refine s_ops ?_
    refine o_mov rfl rfl ?_
    refine o_lnl rfl rfl ?_
    refine o_mov rfl rfl ?_
    refine o_nil ?_
    refine sSeq_normal ?_
    refine s_block ?_
    refine s_iter (α := Nat × Value × Ms) (fun z => ts.length - z.1) (fun z => [(6, z.2.1), (25, .slice oa ts.length ca), (26, I64 (ts.length : Nat)), (27, I64 (z.1 : Nat))]) (fun z => z.2.2) (fun z => z.1 ≤ ts.length ∧ Own 6 z.2.1 (((ts.take z.1).flatten).map Node.cells).flatten z.2.2) (0, _, [(bg, .row row true)]) (subCons rfl (subCons rfl (subCons rfl (subCons rfl subNil)))) (List.singleton_sublist.2 (List.mem_append_left _ hbg)) ⟨Nat.zero_le _, .inr ⟨bg, 0, ts.flatten.length, 7, row, rfl, rfl, rfl, rfl, by simp, .inr ⟨rfl, h0, Nat.zero_le _⟩⟩⟩ ?_
    rintro ⟨k, sv, Mo⟩ ⟨hk, hO⟩
    dsimp only at hk hO ⊢
    refine s_seq ?_
    refine s_ops ?_
    refine o_bin rfl rfl rfl rfl ?_
    refine o_nil ?_
    refine sSeq_normal ?_
    refine s_seq ?_
    refine s_cond rfl (fun hc2 => ?_) (fun hc2 => ?_)
    · have hkk : k < ts.length := by simp at hc2; omega
      obtain ⟨t, ht⟩ : ∃ t, ts[k]? = some t := ⟨ts[k], List.getElem?_eq_getElem hkk⟩
      obtain ⟨ob, cap, g1, g2, g3, g4, hcap, hsl, hok⟩ := hargs.at ht
      have htf := take_flat ts ht
      have htl := take_le ts (k + 1)
      rw [htf, List.length_append] at htl
      refine s_skip ?_
      refine sSeq_normal ?_
      refine s_seq ?_
      refine s_block ?_
      refine s_seq ?_
      refine s_ops ?_
      refine o_iad rfl rfl hkk g1 rfl ?_
      refine o_ld1_old rfl g2 (by simp) g4 rfl ?_
      refine o_mov rfl rfl ?_
      refine o_nil ?_
      refine sSeq_normal ?_
      refine s_ops ?_
      refine o_mov rfl rfl ?_
      refine o_mov rfl rfl ?_
      refine o_appO (es := t.map Node.cells) (Mr := []) (len := (ts.take k).flatten.length) rfl (by rw [List.length_map]; rfl) hO (by rw [flatten_len (size := 6) (fun e he => by obtain ⟨x, _, rfl⟩ := List.mem_map.1 he; rfl), List.length_map]) (by decide) hsl (fun _ _ => by simp) (cells_one t) (by rw [List.length_map]; omega) (by rw [List.append_nil]; exact .refl _) rfl (fun sv' Mo' hO' => ?_)
      rw [← List.flatten_append, ← List.map_append, ← htf] at hO'
      refine o_mov rfl rfl ?_
      refine o_nil ?_
      refine sBlock_normal ?_
      refine sSeq_normal ?_
      refine s_ops ?_
      refine o_bin (v := I64 (k + 1 : Nat)) rfl rfl (by simp only [binV, binInt, if_true]; rw [wrap64 (by omega) (by omega)]; rfl) rfl ?_
      refine o_mov rfl rfl ?_
      refine o_nil ?_
      exact sIter_next (k + 1, sv', Mo') (by dsimp only; omega) (subCons rfl (subCons rfl (subCons rfl (subCons rfl subNil)))) (by rw [List.append_nil]; exact .refl _) ⟨hkk, hO'⟩
    · have hkk : k = ts.length := by simp at hc2; omega
      subst hkk
      rw [List.take_length] at hO
      refine s_exit ?_
      refine sSeq_exit ?_
      refine sIter_exit ?_
      refine sBlock_exit ?_
      refine sSeq_normal ?_
      refine s_seq ?_
      refine s_ops ?_
      refine o_mov rfl rfl ?_
      refine o_mov rfl rfl ?_
      refine o_nil ?_
      refine sSeq_normal ?_
      refine s_ret ?_
      refine sRet_ret [_] ⟨rfl, trivial⟩ ?_
      exact own_newL hO (fun x hx => hx)


def pairN : Node := ⟨5, 2, 0, ⟨#[]⟩, 0, 0⟩
def consT (t u : List Node) : List Node := pairN :: (t ++ u)
def consR (t u : List Node) : List Node × Int × Int := if (check symB (consT t u) false).2 ≠ 0 then ([], 0, 3) else (consT t u, 0, 0)
theorem ok_pair : TermOK [pairN] := ⟨fun x hx => by simp at hx; subst hx; show (2 : Int) ≤ _; decide, by show 1 ≤ _; decide⟩
theorem ok_cons {t u : List Node} (ht : TermOK t) (hu : TermOK u) (hl : (consT t u).length ≤ 1000000) : TermOK (consT t u) := ⟨fun x hx => by
  unfold consT at hx
  rcases List.mem_cons.1 hx with rfl | hx
  · show (2 : Int) ≤ _; decide
  · rcases List.mem_append.1 hx with h | h
    · exact ht.kids x h
    · exact hu.kids x h, by omega⟩
theorem sym_cons {E : Env} {t u : List Node} {H : Hp} (ht : SymsOK E symB t H) (hu : SymsOK E symB u H) : SymsOK E symB (consT t u) H := fun x hx => by
  unfold consT at hx
  rcases List.mem_cons.1 hx with rfl | hx
  · rintro (h | h) <;> cases h
  · rcases List.mem_append.1 hx with h | h
    · exact ht x h
    · exact hu x h

include hE in
theorem cons_spec {t u : List Node} (hl : (consT t u).length ≤ 1000000) (a b : Int) (H : Hp) (hsym : SymsOK E symB t H) (hsymu : SymsOK E symB u H) (oa : Option Addr) (ca : Nat) (svs : List Value) (hargs : ArgsIs H oa svs [t, u]) : Sc E 36 [.agg ⟨[.slice oa 2 ca, I64 a, I64 b]⟩] H [] fun v M => ResIs v (consR symB t u) M := by
  obtain ⟨ob, cap, g1, g2, g3, g4, hcap, hsl, ht⟩ := hargs.at (i := 0) rfl
  obtain ⟨oc, cap2, k1, k2, k3, k4, hcap2, hsl2, hu⟩ := hargs.at (i := 1) rfl
  have hargt : ArgIs H (.slice ob t.length cap) t := ⟨⟨ob, cap, rfl, hcap, hsl⟩, ht⟩
  have hargu : ArgIs H (.slice oc u.length cap2) u := ⟨⟨oc, cap2, rfl, hcap2, hsl2⟩, hu⟩
  refine sc_body hE.h36 rfl ?_
  show Ss E _ _ _ c36.body _ _ _
  unfold c36
  refine s_seq ?_
  refine s_ops ?_
  refine o_box (c := [.slice oa 2 ca, I64 a, I64 b]) rfl rfl rfl (fun b0 => ?_)
  refine o_newz rfl (fun b1 => ?_)
  refine o_nil ?_
  refine sSeq_normal ?_
  refine s_seq ?_
  refine s_draw [true, true, true, true, true, true, true, true, true, true, false, false, false] rfl ?_
  refine o_agg (c := pairN.cells) (fun F hF => rfl) rfl ?_
  refine o_lits (c := pairN.cells) (fun F hF => by simp only [List.map, hF.ev (x := .tmp 6) rfl]; rfl) rfl (fun b3 => ?_)
  refine o_fad rfl rfl ?_
  refine o_ld1 (v := .slice oa 2 ca) (c := [.slice oa 2 ca, I64 a, I64 b]) (own := true) rfl (by simp) rfl rfl ?_
  refine o_iad (i := 0) rfl rfl (by decide) g1 rfl ?_
  refine o_ld1_old rfl g2 (by simp) g4 rfl ?_
  refine o_fad rfl rfl ?_
  refine o_ld1 (v := .slice oa 2 ca) (c := [.slice oa 2 ca, I64 a, I64 b]) (own := true) rfl (by simp) rfl rfl ?_
  refine o_iad (i := 1) rfl rfl (by decide) k1 rfl ?_
  refine o_ld1_old rfl k2 (by simp) k4 rfl ?_
  refine o_lits (c := [.slice (some ⟨b3, 0, some 0⟩) 1 1, .slice ob t.length cap, .slice oc u.length cap2]) (fun F hF => by simp only [List.map, hF.ev (x := .tmp 7) rfl, hF.ev (x := .tmp 11) rfl, hF.ev (x := .tmp 15) rfl]; rfl) rfl (fun b12 => ?_)
  refine o_call1 rfl (ha1 rfl) rfl (fun H1 hH1 => (concat_spec hE [[pairN], t, u] _ (some ⟨b12, 0, some 0⟩) 3 H1 (args3A hH1 (.head _) (NewL.arg (t := [pairN]) hH1 (.inr ⟨b3, some 0, 1, _, rfl, .tail _ (.head _), Nat.le_refl _, [], rfl⟩) ok_pair) (hargt.mono hH1) (hargu.mono hH1)) (by show 3 ≤ _; decide) (by simp) (by simp [consT] at hl ⊢; omega)).mono ?_)
  rintro v M1 hnew
  have hfl : ([[pairN], t, u] : List (List Node)).flatten = consT t u := by simp [consT]
  rw [hfl] at hnew
  obtain ⟨on, cn, rfl⟩ := newL_len hnew
  refine o_mov rfl rfl ?_
  refine o_nil ?_
  refine sSeq_normal ?_
  refine s_seq ?_
  refine s_seq ?_
  refine s_ops ?_
  refine o_mov rfl rfl ?_
  refine o_call0 (v := .tuple ⟨[I64 ((check symB (consT t u) false).1 : Nat), I64 (check symB (consT t u) false).2]⟩) rfl (ha2 rfl rfl) rfl (fun H1 hH1 => by
    obtain ⟨o2, c2, e, _, h2⟩ := ((hnew.mono (fun z hz => by simp [hz])).arg hH1 (ok_cons ht hu hl)).is
    cases e
    exact check_spec hE symB (ok_cons ht hu hl).kids (ok_cons ht hu hl).len false H1 (sym_cons symB (hsym.mono hH1) (hsymu.mono hH1)) _ _ h2) ?_
  refine o_mov rfl rfl ?_
  refine o_ext rfl rfl rfl ?_
  refine o_ext rfl rfl rfl ?_
  refine o_mov rfl rfl ?_
  refine o_mov rfl rfl ?_
  refine o_nil ?_
  refine sSeq_normal ?_
  refine s_seq ?_
  refine s_ops ?_
  refine o_mov rfl rfl ?_
  refine o_bin rfl rfl rfl rfl ?_
  refine o_nil ?_
  refine sSeq_normal ?_
  refine s_cond rfl (fun hc0 => ?_) (fun hc0 => ?_)
  · have hc : (check symB (consT t u) false).2 ≠ 0 := by simpa using hc0
    have hres : consR symB t u = ([], 0, 3) := by unfold consR; rw [if_pos hc]
    refine s_seq ?_
    refine s_ops ?_
    refine o_agg (c := [.slice none 0 0, I64 0, I64 3]) (fun F hF => rfl) rfl ?_
    refine o_stN (M1 := M1 ++ [(b12, .row [.slice (some ⟨b3, 0, some 0⟩) 1 1, .slice ob t.length cap, .slice oc u.length cap2] true), (b3, .row pairN.cells true)]) (M2 := [(b0, .row [.slice oa 2 ca, I64 a, I64 b] true)]) (c := [.slice none 0 0, I64 0, I64 0]) (cn := [.slice none 0 0, I64 0, I64 3]) rfl rfl rfl (by simp) (by show 0 + 3 ≤ 3; exact Nat.le_refl _) rfl rfl ?_
    refine o_nil ?_
    refine sSeq_normal ?_
    refine s_ret ?_
    refine sSeq_ret ?_
    refine sRet_ret [_] ⟨⟨_, _, _, rfl, List.mem_append_right _ (.head _), Nat.le_of_ble_eq_true rfl, rfl⟩, trivial⟩ ?_
    rw [hres]
    first | (exact ⟨_, rfl, .inl ⟨rfl, rfl⟩⟩; done) | exact ⟨_, rfl, hnew.mono (fun x hx => List.mem_append_left _ (List.mem_append_left _ hx))⟩
  · have hc : ¬ (check symB (consT t u) false).2 ≠ 0 := by simpa using hc0
    have hres : consR symB t u = (consT t u, 0, 0) := by unfold consR; rw [if_neg hc]
    refine s_skip ?_
    refine sSeq_normal ?_
    refine s_seq ?_
    refine s_ops ?_
    refine o_mov rfl rfl ?_
    refine o_agg (c := [.slice on (consT t u).length cn, I64 0, I64 0]) (fun F hF => by simp only [List.map, hF.ev (x := .tmp 26) rfl]; rfl) rfl ?_
    refine o_stN (M1 := M1 ++ [(b12, .row [.slice (some ⟨b3, 0, some 0⟩) 1 1, .slice ob t.length cap, .slice oc u.length cap2] true), (b3, .row pairN.cells true)]) (M2 := [(b0, .row [.slice oa 2 ca, I64 a, I64 b] true)]) (c := [.slice none 0 0, I64 0, I64 0]) (cn := [.slice on (consT t u).length cn, I64 0, I64 0]) rfl rfl rfl (by simp) (by show 0 + 3 ≤ 3; exact Nat.le_refl _) rfl rfl ?_
    refine o_nil ?_
    refine sSeq_normal ?_
    refine s_ret ?_
    refine sRet_ret [_] ⟨⟨_, _, _, rfl, List.mem_append_right _ (.head _), Nat.le_of_ble_eq_true rfl, rfl⟩, trivial⟩ ?_
    rw [hres]
    first | (exact ⟨_, rfl, .inl ⟨rfl, rfl⟩⟩; done) | exact ⟨_, rfl, hnew.mono (fun x hx => List.mem_append_left _ (List.mem_append_left _ hx))⟩

end Go.Proofs.YtfonnebpnobomaaDoor.W
namespace Go.Proofs.YtfonnebpnobomaaDoor.W
open Go Am code
set_option maxRecDepth 100000
set_option maxHeartbeats 4000000
set_option linter.unusedSimpArgs false
set_option linter.unusedVariables false
variable {E : Env} (hE : Has E)
variable (symB : ByteArray → Bool)

theorem skipN_append : ∀ {t : List Node} {k m : Nat} (u : List Node), skipN t k = some m → skipN (t ++ u) k = some m := by
  intro t
  induction t with
  | nil =>
    intro k m u h
    cases k with
    | zero => cases h; rw [skipN_zero]
    | succ k => cases h
  | cons x t ih =>
    intro k m u h
    cases k with
    | zero => cases h; rfl
    | succ k =>
      simp only [skipN, List.cons_append] at h ⊢
      cases hs : skipN t (k + x.kids.toNat) with
      | none => rw [hs] at h; cases h
      | some q => rw [hs] at h; rw [ih u hs]; exact h
theorem val_check {t : List Node} (h : valErr symB t = 0) : (check symB t false).2 = 0 := by
  unfold valErr at h
  by_cases e : (check symB t false).2 ≠ 0
  · rw [if_pos e] at h; exact absurd h e
  · simpa using e
theorem cons_val {t u : List Node} (hc : (check symB (consT t u) false).2 = 0) : valErr symB (consT t u) = 0 := by
  have hf : form symB (consT t u) = (false, 0) := by unfold form; rw [if_pos hc]
  have hl : ¬ ((0 : Int) < 0 ∨ (0 : Int) ≥ ((consT t u).length : Nat)) := by simp [consT]; omega
  have hpl : place symB (consT t u) 0 = 0 := by unfold place; rw [hf, if_neg (by simp), if_neg hl]
  have hva : (valueAt symB (consT t u) 0).1 = true := by
    unfold valueAt
    rw [if_neg (fun h => h hpl)]; rfl
  unfold valErr
  rw [if_neg (fun h => h hc), if_pos hva]
theorem cons_sub {t u : List Node} (hc : (check symB (consT t u) false).2 = 0) (ht : valErr symB t = 0) : subR symB (consT t u) 1 = (t, 0) := by
  obtain ⟨hW, _, _, _⟩ := check_ok symB (val_check symB ht)
  have hp := valErr_ok symB ht
  have hf : form symB (consT t u) = (false, 0) := by unfold form; rw [if_pos hc]
  have hl : ¬ (((1 : Nat) : Int) < 0 ∨ ((1 : Nat) : Int) ≥ ((consT t u).length : Nat)) := by simp [consT]; omega
  have hpl : place symB (consT t u) ((1 : Nat) : Int) = 0 := by unfold place; rw [hf, if_neg (by simp), if_neg hl]
  unfold subR
  rw [if_neg (fun h => h hpl)]
  have hs : sizeAt (consT t u) 1 = t.length := by
    unfold sizeAt
    have : (consT t u).drop 1 = t ++ u := rfl
    rw [this, skipN_append u hW]; rfl
  unfold subT
  rw [hs]
  have : (consT t u).drop 1 = t ++ u := rfl
  rw [this, List.take_left]
theorem cons_part {t u : List Node} (hc : (check symB (consT t u) false).2 = 0) (ht : valErr symB t = 0) (b : Bool) : partR symB (consT t u) b = (if b then u else t, 0, 0) := by
  unfold partR
  show (if pairN.kind ≠ 5 then ([], 0, 19) else (partT symB (consT t u) b, 0, 0)) = _
  rw [if_neg (by decide)]
  unfold partT
  rw [cons_sub symB hc ht]
  cases b
  · rfl
  · show ((consT t u).drop (1 + t.length), (0 : Int), (0 : Int)) = (u, 0, 0)
    unfold consT
    rw [Nat.add_comm, List.drop_succ_cons, List.drop_left]
theorem apply_cons_err {t u : List Node} (h : (applyR symB 2 false [t, u] (consR symB t u)).2.2 ≠ 0) : (applyR symB 2 false [t, u] (consR symB t u)).1 = [] := by
  by_cases ht : valErr symB t = 0
  · by_cases hu : valErr symB u = 0
    · have e : applyR symB 2 false [t, u] (consR symB t u) = consR symB t u := by simp [applyR, badArg, ht, hu]
      rw [e] at h ⊢
      unfold consR at h ⊢
      split
      · rfl
      · rename_i hc
        rw [if_neg hc] at h; exact absurd rfl h
    · simp [applyR, badArg, ht, hu]
  · simp [applyR, badArg, ht]
theorem apply_cons_ok {t u : List Node} (h : (applyR symB 2 false [t, u] (consR symB t u)).2.2 = 0) : valErr symB t = 0 ∧ valErr symB u = 0 ∧ (check symB (consT t u) false).2 = 0 ∧ applyR symB 2 false [t, u] (consR symB t u) = (consT t u, 0, 0) := by
  by_cases ht : valErr symB t = 0
  · by_cases hu : valErr symB u = 0
    · have e : applyR symB 2 false [t, u] (consR symB t u) = consR symB t u := by simp [applyR, badArg, ht, hu]
      rw [e] at h ⊢
      unfold consR at h ⊢
      by_cases hc : (check symB (consT t u) false).2 = 0
      · rw [if_neg (by simp [hc])]; exact ⟨ht, hu, hc, rfl⟩
      · rw [if_pos hc] at h; cases h
    · simp [applyR, badArg, ht, hu] at h
  · simp [applyR, badArg, ht] at h
theorem eqFrom_refl : ∀ t : List Node, eqFrom t t = true := by
  intro t
  induction t with
  | nil => rfl
  | cons x t ih => simp only [eqFrom]; rw [ih]; simp [nodeEq]
include hE in
theorem Equal_arg {H : Hp} {v w : Value} {a b : List Node} (ha : ArgIs H v a) (hb : ArgIs H w b) (hl : a.length ≤ 1000000000) : Sc E 11 [v, w] H [] fun v _ => v = .bool (eqFrom a b) := by
  obtain ⟨oa, ca, rfl, _, h1⟩ := ha.is
  obtain ⟨ob, cb, rfl, _, h2⟩ := hb.is
  exact Equal_spec hE a b hl H oa ob ca cb h1 h2
include hE in
theorem part_call (second : Bool) (nm : List UInt8) (hnm : nm = if second then [99, 100, 114] else [99, 97, 114]) {t u : List Node} (hl : (consT t u).length ≤ 1000000) (hc : (check symB (consT t u) false).2 = 0) (ht : valErr symB t = 0) (oa : Option Addr) (ca : Nat) (svs : List Value) (H : Hp) (hargs : ArgsIs H oa svs [consT t u]) (hsym : SymsOK E symB (consT t u) H) : Sc E 8 [.string ⟨⟨nm⟩⟩, .slice oa 1 ca] H [] fun v M => ∃ rv, v = .tuple ⟨[rv, I64 0]⟩ ∧ NewL rv (if second then u else t) M := by
  have hv := cons_val symB hc
  have hp : 0 < (consT t u).length := by simp [consT]
  have hs1 : 1 + (subR symB (consT t u) 1).1.length ≤ (consT t u).length := by rw [cons_sub symB hc ht]; simp [consT]; omega
  have hR := cons_part symB hc ht second
  subst hnm
  cases second with
  | true =>
    have h := one_spec hE symB (i := 9) (nm := [99, 100, 114]) (gf := 39) (cap := fun _ _ _ _ _ _ => []) (by decide) (fun _ _ _ _ _ _ => rfl) (consT t u) hv (partR symB (consT t u) true) oa ca svs H hargs hsym (fun a b k1 k2 k3 k4 k5 k6 H1 hs hA f1 f2 f3 f4 f5 f6 => opCdr_spec hE symB hp hl hs1 a b H1 hs oa 1 ca (by decide) svs [consT t u] hA rfl)
    rw [hR] at h; exact h
  | false =>
    have h := one_spec hE symB (i := 8) (nm := [99, 97, 114]) (gf := 37) (cap := fun _ _ _ _ _ _ => []) (by decide) (fun _ _ _ _ _ _ => rfl) (consT t u) hv (partR symB (consT t u) false) oa ca svs H hargs hsym (fun a b k1 k2 k3 k4 k5 k6 H1 hs hA f1 f2 f3 f4 f5 f6 => opCar_spec hE symB hp hl hs1 a b H1 hs oa 1 ca (by decide) svs [consT t u] hA rfl)
    rw [hR] at h; exact h
theorem large_len {t : List Node} (h : largeB t = false) : t.length ≤ 2020 := by
  unfold largeB at h
  simp only [Bool.or_eq_false_iff, decide_eq_false_iff_not] at h
  omega

include hE in
theorem PrimsPairs_spec (hawake : ∀ H, Sc E 9 [] H [] fun v _ => v = .bool true) {t u : List Node} (ht : TermOK t) (hu : TermOK u) (H : Hp) (hsym : SymsOK E symB t H) (hsymu : SymsOK E symB u H) (ob : Option Addr) (cap : Nat) (hcap : t.length ≤ cap) (hsl : SlE H 6 ob (t.map Node.cells)) (oc : Option Addr) (cap2 : Nat) (hcap2 : u.length ≤ cap2) (hsl2 : SlE H 6 oc (u.map Node.cells)) : Sc E 4 [.slice ob t.length cap, .slice oc u.length cap2] H [] fun v _ => v = .bool true := by
  refine sc_body hE.h4 rfl ?_
  show Ss E _ _ _ c4.body _ _ _
  unfold c4
  refine s_seq ?_
  refine s_ops ?_
  refine o_mov rfl rfl ?_
  refine o_nil ?_
  refine sSeq_normal ?_
  refine s_seq ?_
  refine s_seq ?_
  refine s_ops ?_
  refine o_mov rfl rfl ?_
  refine o_call0 (v := .bool (largeB t)) rfl (ha1 rfl) rfl (fun H1 hH1 => large_spec hE t ht.len H1 ob cap (hsl.mono hH1 (fun _ _ h => (by cases h)))) ?_
  refine o_mov rfl rfl ?_
  refine g_mov (by first | exact wanted_b rfl | exact wanted_g rfl) (by first | exact evG rfl | exact evG2 rfl | exact evG3 rfl | exact fun _ => rfl) rfl ?_
  refine g_call0 (v := .bool (largeB u)) (by first | exact wanted_b rfl | exact wanted_g rfl) rfl (fun hw => ha1 (evG rfl hw)) rfl (fun _ H1 hH1 => large_spec hE u hu.len H1 oc cap2 (hsl2.mono hH1 (fun _ _ h => (by cases h)))) ?_
  refine o_pickB rfl (by first | exact fun h => evG rfl (by rw [h]; rfl) | exact fun _ => rfl) (by first | exact fun h => evG rfl (by rw [h]; rfl) | exact fun _ => rfl) rfl ?_
  refine o_nil ?_
  refine sSeq_normal ?_
  refine s_cond rfl (fun hc0 => ?_) (fun hc0 => ?_)
  · skip
    refine s_seq ?_
    refine s_ops ?_
    refine o_call0 (v := .bool true) rfl ha0 rfl (fun H1 _ => hawake H1) ?_
    refine o_mov rfl rfl ?_
    refine o_nil ?_
    refine sSeq_normal ?_
    refine s_ret ?_
    refine sSeq_ret ?_
    refine sRet_ret [_] ⟨rfl, trivial⟩ ?_
    rfl
  · have hll : largeB t = false ∧ largeB u = false := by
      cases h1 : largeB t with
      | true => rw [h1] at hc0; cases hc0
      | false =>
        rw [h1] at hc0
        exact ⟨rfl, hc0⟩
    have hlt := large_len hll.1
    have hlu := large_len hll.2
    have hl : (consT t u).length ≤ 1000000 := by simp [consT]; omega
    have harg : ArgIs H (.slice ob t.length cap) t := ⟨⟨ob, cap, rfl, hcap, hsl⟩, ht⟩
    have hargu : ArgIs H (.slice oc u.length cap2) u := ⟨⟨oc, cap2, rfl, hcap2, hsl2⟩, hu⟩
    obtain ⟨rr, hrr⟩ : ∃ rr, rr = applyR symB 2 false [t, u] (consR symB t u) := ⟨_, rfl⟩
    refine s_skip ?_
    refine sSeq_normal ?_
    refine s_seq ?_
    refine s_ops ?_
    refine o_mov rfl rfl ?_
    refine o_mov rfl rfl ?_
    refine o_lits (c := [.slice ob t.length cap, .slice oc u.length cap2]) (fun F hF => by simp only [List.map, hF.ev (x := .tmp 20) rfl, hF.ev (x := .tmp 21) rfl]; rfl) rfl (fun b11 => ?_)
    refine o_call1 rfl (ha2 rfl rfl) rfl (fun H1 hH1 => (Apply_spec hE symB ⟨⟨[99, 111, 110, 115]⟩⟩ [t, u] [.slice ob t.length cap, .slice oc u.length cap2] (some ⟨b11, 0, some 0⟩) 2 H1 (by show 2 ≤ _; decide) (args2A hH1 (.head _) (harg.mono hH1) (hargu.mono hH1)) (fun t' ht' => by simp at ht'; rcases ht' with rfl | rfl <;> first | exact hsym.mono hH1 | exact hsymu.mono hH1) 2 false (consR symB t u) 36 (fun _ _ _ _ _ _ => []) (fun h => (by cases h)) (fun k1 k2 k3 k4 k5 k6 => ⟨⟨⟨[99, 111, 110, 115]⟩⟩, table_at k1 k2 k3 k4 k5 k6 (i := 7) (by decide) rfl rfl⟩) (fun _ _ a b _ k1 k2 k3 k4 k5 k6 H2 hs hA _ _ _ _ _ _ => cons_spec hE symB hl a b H2 (hs t (by simp)) (hs u (by simp)) (some ⟨b11, 0, some 0⟩) 2 _ hA)).mono ?_)
    rintro v M1 ⟨rv, rfl, hr⟩
    rw [← hrr] at hr ⊢
    refine o_mov rfl rfl ?_
    refine o_ext rfl rfl rfl ?_
    refine o_ext rfl rfl rfl ?_
    refine o_ext rfl rfl rfl ?_
    refine o_mov rfl rfl ?_
    refine o_mov rfl rfl ?_
    refine o_mov rfl rfl ?_
    refine o_nil ?_
    refine sSeq_normal ?_
    refine s_seq ?_
    refine s_seq ?_
    refine s_ops ?_
    refine o_mov rfl rfl ?_
    refine o_bin rfl rfl rfl rfl ?_
    refine o_nil ?_
    refine sSeq_normal ?_
    refine s_cond rfl (fun hc1 => ?_) (fun hc1 => ?_)
    · have he : rr.2.2 ≠ 0 := by simpa using hc1
      have he1 : rr.1 = [] := by rw [hrr] at he ⊢; exact apply_cons_err symB he
      rw [he1] at hr
      obtain ⟨on, cn, rfl⟩ := newL_len hr
      refine s_seq ?_
      refine s_ops ?_
      refine o_mov rfl rfl ?_
      refine o_lnl rfl rfl ?_
      refine o_bin rfl rfl rfl rfl ?_
      refine o_mov rfl rfl ?_
      refine g_on (wantedT rfl rfl) ?_
      refine o_call0 (v := .bool true) rfl ha0 rfl (fun H1 _ => hawake H1) ?_
      refine o_pickB rfl (by first | exact fun h => evG rfl (by rw [h]; rfl) | exact fun _ => rfl) (by first | exact fun h => evG rfl (by rw [h]; rfl) | exact fun _ => rfl) rfl ?_
      refine o_mov rfl rfl ?_
      refine o_nil ?_
      refine sSeq_normal ?_
      refine s_ret ?_
      refine sSeq_ret ?_
      refine sRet_ret [_] ⟨rfl, trivial⟩ ?_
      rfl
    · have he : rr.2.2 = 0 := by simpa using hc1
      rw [hrr] at he
      obtain ⟨hv, hvu, hc, hrr2⟩ := apply_cons_ok symB he
      rw [hrr, hrr2] at hr
      refine s_skip ?_
      refine sSeq_normal ?_
      refine s_seq ?_
      refine s_ops ?_
      refine o_mov rfl rfl ?_
      refine o_lits (c := [rv]) (fun F hF => by simp only [List.map, hF.ev (x := .tmp 36) rfl]; exact fill1 hr) rfl (fun b30 => ?_)
      refine o_call1 rfl (ha2 rfl rfl) rfl (fun H1 hH1 => (part_call hE symB false [99, 97, 114] rfl hl hc hv (some ⟨b30, 0, some 0⟩) 1 [rv] H1 (args1 hH1 (.head _) (hr.mono (fun z hz => by simp [hz])) (ok_cons ht hu hl)) (sym_cons symB (hsym.mono hH1) (hsymu.mono hH1))).mono ?_)
      rintro v M2 ⟨av, rfl, hav⟩
      refine o_mov rfl rfl ?_
      refine o_ext rfl rfl rfl ?_
      refine o_ext rfl rfl rfl ?_
      refine o_mov rfl rfl ?_
      refine o_mov rfl rfl ?_
      refine o_nil ?_
      refine sSeq_normal ?_
      refine s_seq ?_
      refine s_ops ?_
      refine o_mov rfl rfl ?_
      refine o_lits (c := [rv]) (fun F hF => by simp only [List.map, hF.ev (x := .tmp 42) rfl]; exact fill1 hr) rfl (fun b38 => ?_)
      refine o_call1 rfl (ha2 rfl rfl) rfl (fun H1 hH1 => (part_call hE symB true [99, 100, 114] rfl hl hc hv (some ⟨b38, 0, some 0⟩) 1 [rv] H1 (args1 hH1 (.head _) (hr.mono (fun z hz => by simp [hz])) (ok_cons ht hu hl)) (sym_cons symB (hsym.mono hH1) (hsymu.mono hH1))).mono ?_)
      rintro v M3 ⟨dv, rfl, hdv⟩
      refine o_mov rfl rfl ?_
      refine o_ext rfl rfl rfl ?_
      refine o_ext rfl rfl rfl ?_
      refine o_mov rfl rfl ?_
      refine o_mov rfl rfl ?_
      refine o_nil ?_
      refine sSeq_normal ?_
      refine s_seq ?_
      refine s_ops ?_
      refine o_mov rfl rfl ?_
      refine o_bin rfl rfl rfl rfl ?_
      refine o_mov rfl rfl ?_
      refine g_on (wantedT rfl rfl) ?_
      refine o_mov rfl rfl ?_
      refine g_on (wantedT rfl rfl) ?_
      refine o_bin rfl rfl rfl rfl ?_
      refine o_pickB rfl (by first | exact fun h => evG rfl (by rw [h]; rfl) | exact fun _ => rfl) (by first | exact fun h => evG rfl (by rw [h]; rfl) | exact fun _ => rfl) rfl ?_
      refine o_mov rfl rfl ?_
      refine g_on (wantedT rfl rfl) ?_
      refine o_mov rfl rfl ?_
      refine g_on (wantedT rfl rfl) ?_
      refine o_mov rfl rfl ?_
      refine g_on (wantedT rfl rfl) ?_
      refine o_call0 (v := .bool true) rfl (ha2 rfl rfl) rfl (fun H1 hH1 => by have h := Equal_arg hE (a := t) (b := t) ((hav.mono (fun z hz => by simp [hz])).arg hH1 ht) (harg.mono hH1) (by omega); rw [eqFrom_refl] at h; exact h) ?_
      refine o_pickB rfl (by first | exact fun h => evG rfl (by rw [h]; rfl) | exact fun _ => rfl) (by first | exact fun h => evG rfl (by rw [h]; rfl) | exact fun _ => rfl) rfl ?_
      refine o_mov rfl rfl ?_
      refine g_on (wantedT rfl rfl) ?_
      refine o_mov rfl rfl ?_
      refine g_on (wantedT rfl rfl) ?_
      refine o_mov rfl rfl ?_
      refine g_on (wantedT rfl rfl) ?_
      refine o_call0 (v := .bool true) rfl (ha2 rfl rfl) rfl (fun H1 hH1 => by have h := Equal_arg hE (a := u) (b := u) ((hdv.mono (fun z hz => by simp [hz])).arg hH1 hu) (hargu.mono hH1) (by omega); rw [eqFrom_refl] at h; exact h) ?_
      refine o_pickB rfl (by first | exact fun h => evG rfl (by rw [h]; rfl) | exact fun _ => rfl) (by first | exact fun h => evG rfl (by rw [h]; rfl) | exact fun _ => rfl) rfl ?_
      refine o_mov rfl rfl ?_
      refine g_on (wantedT rfl rfl) ?_
      refine o_call0 (v := .bool true) rfl ha0 rfl (fun H1 _ => hawake H1) ?_
      refine o_pickB rfl (by first | exact fun h => evG rfl (by rw [h]; rfl) | exact fun _ => rfl) (by first | exact fun h => evG rfl (by rw [h]; rfl) | exact fun _ => rfl) rfl ?_
      refine o_mov rfl rfl ?_
      refine o_nil ?_
      refine sSeq_normal ?_
      refine s_ret ?_
      refine sRet_ret [_] ⟨rfl, trivial⟩ ?_
      rfl

end Go.Proofs.YtfonnebpnobomaaDoor.W
namespace Go.Proofs.YtfonnebpnobomaaDoor.W
open Go Am code
set_option maxRecDepth 100000
set_option maxHeartbeats 4000000
set_option linter.unusedSimpArgs false
set_option linter.unusedVariables false

structure HasS (E : Env) : Prop where
  h56 : E.code 56 = some c56
  h65 : E.code 65 = some c65
  h74 : E.code 74 = some c74
  h75 : E.code 75 = some c75
  h86 : E.code 86 = some c86
  h85 : E.code 85 = some c85
  h66 : E.code 66 = some c66
  h76 : E.code 76 = some c76
  h77 : E.code 77 = some c77
  h78 : E.code 78 = some c78
  h92 : E.code 92 = some c92
  h95 : E.code 95 = some c95
  h93 : E.code 93 = some c93
  h87 : E.code 87 = some c87
  h84 : E.code 84 = some c84


abbrev I32 (z : Int) : Value := .int .i32 z
abbrev U8 (z : Int) : Value := .int .u8 z

end Go.Proofs.YtfonnebpnobomaaDoor.W
namespace Go.Proofs.YtfonnebpnobomaaDoor.W
open Go Am code
set_option maxRecDepth 100000
set_option maxHeartbeats 4000000
set_option linter.unusedSimpArgs false
set_option linter.unusedVariables false
variable {E : Env} (hS : HasS E)
include hS in
theorem validRune_spec (r : Int) (H : Hp) : Sc E 87 [I32 r] H [] fun v _ => ∃ p, v = .bool p := by
  refine sc_body hS.h87 rfl ?_
  show Ss E _ _ _ c87.body _ _ _
  unfold c87
  refine s_seq ?_
  refine s_ops ?_
  refine o_mov rfl rfl ?_
  refine o_nil ?_
  refine sSeq_normal ?_
  refine s_seq ?_
  refine s_block ?_
  refine s_seq ?_
  refine s_ops ?_
  refine o_mov rfl rfl ?_
  refine o_bin rfl rfl rfl rfl ?_
  refine o_mov rfl rfl ?_
  refine g_mov (by first | exact wanted_b rfl | exact wanted_g rfl) (by first | exact evG rfl | exact evG2 rfl | exact evG3 rfl | exact fun _ => rfl) rfl ?_
  refine g_bin (by first | exact wanted_b rfl | exact wanted_g rfl) (by first | exact evG rfl | exact evG2 rfl | exact evG3 rfl | exact fun _ => rfl) (by first | exact evG rfl | exact evG2 rfl | exact evG3 rfl | exact fun _ => rfl) (fun _ => rfl) rfl ?_
  refine o_pickB rfl (by first | exact fun h => evG rfl (by rw [h]; rfl) | exact fun _ => rfl) (by first | exact fun h => evG rfl (by rw [h]; rfl) | exact fun _ => rfl) rfl ?_
  refine o_mov rfl rfl ?_
  refine o_nil ?_
  refine sSeq_normal ?_
  refine s_cond rfl (fun hc0 => ?_) (fun hc0 => ?_)
  · skip
    refine s_seq ?_
    refine s_ops ?_
    refine o_mov rfl rfl ?_
    refine o_nil ?_
    refine sSeq_normal ?_
    refine s_ret ?_
    refine sBlock_ret ?_
    refine sSeq_ret ?_
    refine sRet_ret [_] ⟨rfl, trivial⟩ ?_
    exact ⟨_, rfl⟩
  · skip
    refine s_seq ?_
    refine s_ops ?_
    refine o_mov rfl rfl ?_
    refine o_bin rfl rfl rfl rfl ?_
    refine o_mov rfl rfl ?_
    refine g_mov (by first | exact wanted_b rfl | exact wanted_g rfl) (by first | exact evG rfl | exact evG2 rfl | exact evG3 rfl | exact fun _ => rfl) rfl ?_
    refine g_bin (by first | exact wanted_b rfl | exact wanted_g rfl) (by first | exact evG rfl | exact evG2 rfl | exact evG3 rfl | exact fun _ => rfl) (by first | exact evG rfl | exact evG2 rfl | exact evG3 rfl | exact fun _ => rfl) (fun _ => rfl) rfl ?_
    refine o_pickB rfl (by first | exact fun h => evG rfl (by rw [h]; rfl) | exact fun _ => rfl) (by first | exact fun h => evG rfl (by rw [h]; rfl) | exact fun _ => rfl) rfl ?_
    refine o_mov rfl rfl ?_
    refine o_nil ?_
    refine sSeq_normal ?_
    refine s_cond rfl (fun hc1 => ?_) (fun hc1 => ?_)
    · skip
      refine s_seq ?_
      refine s_ops ?_
      refine o_mov rfl rfl ?_
      refine o_nil ?_
      refine sSeq_normal ?_
      refine s_ret ?_
      refine sBlock_ret ?_
      refine sSeq_ret ?_
      refine sRet_ret [_] ⟨rfl, trivial⟩ ?_
      exact ⟨_, rfl⟩
    · skip
      refine s_skip ?_
      refine sBlock_normal ?_
      refine sSeq_normal ?_
      refine s_seq ?_
      refine s_ops ?_
      refine o_mov rfl rfl ?_
      refine o_nil ?_
      refine sSeq_normal ?_
      refine s_ret ?_
      refine sRet_ret [_] ⟨rfl, trivial⟩ ?_
      exact ⟨_, rfl⟩

include hS in
theorem is_spec (r : Int) (H : Hp) : Sc E 76 [I32 r] H [] fun v _ => ∃ p, v = .bool p := by
  refine sc_body hS.h76 rfl ?_
  show Ss E _ _ _ c76.body _ _ _
  unfold c76
  refine s_seq ?_
  refine s_ops ?_
  refine o_mov rfl rfl ?_
  refine o_nil ?_
  refine sSeq_normal ?_
  refine s_seq ?_
  refine s_ops ?_
  refine o_mov rfl rfl ?_
  refine o_callE rfl (ha1 rfl) rfl (fun H1 _ => validRune_spec hS r H1) ?_
  rintro v ⟨p, rfl⟩
  refine o_mov rfl rfl ?_
  refine o_nil ?_
  refine sSeq_normal ?_
  refine s_ret ?_
  refine sRet_ret [_] ⟨rfl, trivial⟩ ?_
  exact ⟨_, rfl⟩

include hS in
theorem runeLen_spec (r : Int) (H : Hp) : Sc E 84 [I32 r] H [] fun v _ => ∃ k, v = I64 k := by
  refine sc_body hS.h84 rfl ?_
  show Ss E _ _ _ c84.body _ _ _
  unfold c84
  refine s_seq ?_
  refine s_ops ?_
  refine o_mov rfl rfl ?_
  refine o_nil ?_
  refine sSeq_normal ?_
  refine s_seq ?_
  refine s_block ?_
  refine s_seq ?_
  refine s_ops ?_
  refine o_mov rfl rfl ?_
  refine o_bin rfl rfl rfl rfl ?_
  refine o_mov rfl rfl ?_
  refine o_nil ?_
  refine sSeq_normal ?_
  refine s_cond rfl (fun hc0 => ?_) (fun hc0 => ?_)
  · skip
    refine s_seq ?_
    refine s_ops ?_
    refine o_mov rfl rfl ?_
    refine o_nil ?_
    refine sSeq_normal ?_
    refine s_ret ?_
    refine sBlock_ret ?_
    refine sSeq_ret ?_
    refine sRet_ret [_] ⟨rfl, trivial⟩ ?_
    exact ⟨_, rfl⟩
  · skip
    refine s_seq ?_
    refine s_ops ?_
    refine o_mov rfl rfl ?_
    refine o_bin rfl rfl rfl rfl ?_
    refine o_mov rfl rfl ?_
    refine o_nil ?_
    refine sSeq_normal ?_
    refine s_cond rfl (fun hc1 => ?_) (fun hc1 => ?_)
    · skip
      refine s_seq ?_
      refine s_ops ?_
      refine o_mov rfl rfl ?_
      refine o_nil ?_
      refine sSeq_normal ?_
      refine s_ret ?_
      refine sBlock_ret ?_
      refine sSeq_ret ?_
      refine sRet_ret [_] ⟨rfl, trivial⟩ ?_
      exact ⟨_, rfl⟩
    · skip
      refine s_seq ?_
      refine s_ops ?_
      refine o_mov rfl rfl ?_
      refine o_bin rfl rfl rfl rfl ?_
      refine o_mov rfl rfl ?_
      refine o_nil ?_
      refine sSeq_normal ?_
      refine s_cond rfl (fun hc2 => ?_) (fun hc2 => ?_)
      · skip
        refine s_seq ?_
        refine s_ops ?_
        refine o_mov rfl rfl ?_
        refine o_nil ?_
        refine sSeq_normal ?_
        refine s_ret ?_
        refine sBlock_ret ?_
        refine sSeq_ret ?_
        refine sRet_ret [_] ⟨rfl, trivial⟩ ?_
        exact ⟨_, rfl⟩
      · skip
        refine s_seq ?_
        refine s_ops ?_
        refine o_mov rfl rfl ?_
        refine o_bin rfl rfl rfl rfl ?_
        refine o_mov rfl rfl ?_
        refine g_mov (by first | exact wanted_b rfl | exact wanted_g rfl) (by first | exact evG rfl | exact evG2 rfl | exact evG3 rfl | exact fun _ => rfl) rfl ?_
        refine g_bin (by first | exact wanted_b rfl | exact wanted_g rfl) (by first | exact evG rfl | exact evG2 rfl | exact evG3 rfl | exact fun _ => rfl) (by first | exact evG rfl | exact evG2 rfl | exact evG3 rfl | exact fun _ => rfl) (fun _ => rfl) rfl ?_
        refine o_pickB rfl (by first | exact fun h => evG rfl (by rw [h]; rfl) | exact fun _ => rfl) (by first | exact fun h => evG rfl (by rw [h]; rfl) | exact fun _ => rfl) rfl ?_
        refine o_mov rfl rfl ?_
        refine o_nil ?_
        refine sSeq_normal ?_
        refine s_cond rfl (fun hc3 => ?_) (fun hc3 => ?_)
        · skip
          refine s_seq ?_
          refine s_ops ?_
          refine o_mov rfl rfl ?_
          refine o_nil ?_
          refine sSeq_normal ?_
          refine s_ret ?_
          refine sBlock_ret ?_
          refine sSeq_ret ?_
          refine sRet_ret [_] ⟨rfl, trivial⟩ ?_
          exact ⟨_, rfl⟩
        · skip
          refine s_seq ?_
          refine s_ops ?_
          refine o_mov rfl rfl ?_
          refine o_bin rfl rfl rfl rfl ?_
          refine o_mov rfl rfl ?_
          refine o_nil ?_
          refine sSeq_normal ?_
          refine s_cond rfl (fun hc4 => ?_) (fun hc4 => ?_)
          · skip
            refine s_seq ?_
            refine s_ops ?_
            refine o_mov rfl rfl ?_
            refine o_nil ?_
            refine sSeq_normal ?_
            refine s_ret ?_
            refine sBlock_ret ?_
            refine sSeq_ret ?_
            refine sRet_ret [_] ⟨rfl, trivial⟩ ?_
            exact ⟨_, rfl⟩
          · skip
            refine s_seq ?_
            refine s_ops ?_
            refine o_mov rfl rfl ?_
            refine o_bin rfl rfl rfl rfl ?_
            refine o_mov rfl rfl ?_
            refine o_nil ?_
            refine sSeq_normal ?_
            refine s_cond rfl (fun hc5 => ?_) (fun hc5 => ?_)
            · skip
              refine s_seq ?_
              refine s_ops ?_
              refine o_mov rfl rfl ?_
              refine o_nil ?_
              refine sSeq_normal ?_
              refine s_ret ?_
              refine sBlock_ret ?_
              refine sSeq_ret ?_
              refine sRet_ret [_] ⟨rfl, trivial⟩ ?_
              exact ⟨_, rfl⟩
            · skip
              refine s_skip ?_
              refine sBlock_normal ?_
              refine sSeq_normal ?_
              refine s_seq ?_
              refine s_ops ?_
              refine o_mov rfl rfl ?_
              refine o_nil ?_
              refine sSeq_normal ?_
              refine s_ret ?_
              refine sRet_ret [_] ⟨rfl, trivial⟩ ?_
              exact ⟨_, rfl⟩

end Go.Proofs.YtfonnebpnobomaaDoor.W
namespace Go.Proofs.YtfonnebpnobomaaDoor.W
open Go Am code
set_option maxRecDepth 100000
set_option maxHeartbeats 4000000
set_option linter.unusedSimpArgs false
set_option linter.unusedVariables false
variable {E : Env} (hS : HasS E)

def classStrs : List ByteArray := [⟨#[]⟩, ⟨#[9, 10, 13, 32]⟩, ⟨#[40, 91]⟩, ⟨#[41, 93]⟩, ⟨#[39]⟩, ⟨#[35]⟩, ⟨#[59]⟩, ⟨#[]⟩, ⟨#[43, 45]⟩, ⟨#[33, 36, 37, 38, 42, 47, 58, 60, 61, 62, 63, 94, 95, 126, 46, 64]⟩]
include hS in
theorem classes_spec (H : Hp) : Sc E 77 [] H [] fun v _ => v = .agg ⟨classStrs.map .string⟩ := by
  refine sc_body hS.h77 rfl ?_
  show Ss E _ _ _ c77.body _ _ _
  unfold c77
  refine s_seq ?_
  refine s_ops ?_
  refine o_newz rfl (fun b0 => ?_)
  refine o_nil ?_
  refine sSeq_normal ?_
  refine s_seq ?_
  refine s_ops ?_
  refine o_agg (c := classStrs.map .string) (fun F hF => rfl) rfl ?_
  refine o_stN (M1 := []) (cn := classStrs.map .string) rfl rfl rfl rfl (by show 0 + 10 ≤ 10; exact Nat.le_refl _) rfl rfl ?_
  refine o_nil ?_
  refine sSeq_normal ?_
  refine s_ret ?_
  refine sRet_ret [_] ⟨⟨_, _, _, rfl, (by first | exact .head _ | exact .tail _ (.head _) | exact .tail _ (.tail _ (.head _)) | exact .tail _ (.tail _ (.tail _ (.head _))) | exact .tail _ (.tail _ (.tail _ (.tail _ (.head _))))), Nat.le_of_ble_eq_true rfl, rfl⟩, trivial⟩ ?_
  rfl

include hS in
theorem hasRune_spec (s : ByteArray) (r : Int) (H : Hp) : Sc E 78 [.string s, I32 r] H [] fun v _ => ∃ p, v = .bool p := by
  refine sc_body hS.h78 rfl ?_
  show Ss E _ _ _ c78.body _ _ _
  unfold c78
  refine s_seq ?_
  refine s_ops ?_
  refine o_mov rfl rfl ?_
  refine o_nil ?_
  refine sSeq_normal ?_
  refine s_seq ?_
  refine s_seq ?_
  refine s_ops ?_
  refine o_mov rfl rfl ?_
  refine o_itr rfl rfl (fun b2 => ?_)
  refine o_nil ?_
  refine sSeq_normal ?_
  refine s_block ?_
  refine s_iter (α := Nat) (fun k => s.size - k) (fun k => [(0, .string s), (1, I32 r), (8, .pointer (some ⟨b2, 0, none⟩))]) (fun k => [(b2, .iter s k)]) (fun k => True) 0 (subCons rfl (subCons rfl (subCons rfl subNil))) (.refl _) trivial ?_
  intro k _
  refine s_seq ?_
  refine s_ops ?_
  refine o_nxtB (M1 := []) rfl rfl rfl (fun p w c hw => ?_)
  refine o_ext rfl rfl rfl ?_
  refine o_nil ?_
  refine sSeq_normal ?_
  refine s_seq ?_
  refine s_cond rfl (fun hc0 => ?_) (fun hc0 => ?_)
  · subst hc0
    obtain ⟨hw1, hw2⟩ := hw rfl
    refine s_skip ?_
    refine sSeq_normal ?_
    refine s_block ?_
    refine s_seq ?_
    refine s_ops ?_
    refine o_ext rfl rfl rfl ?_
    refine o_mov rfl rfl ?_
    refine o_nil ?_
    refine sSeq_normal ?_
    refine s_seq ?_
    refine s_ops ?_
    refine o_mov rfl rfl ?_
    refine o_mov rfl rfl ?_
    refine o_bin rfl rfl rfl rfl ?_
    refine o_nil ?_
    refine sSeq_normal ?_
    refine s_cond rfl (fun hc1 => ?_) (fun hc1 => ?_)
    · skip
      refine s_seq ?_
      refine s_ops ?_
      refine o_mov rfl rfl ?_
      refine o_nil ?_
      refine sSeq_normal ?_
      refine s_ret ?_
      refine sBlock_ret ?_
      refine sIter_ret ?_
      refine sBlock_ret ?_
      refine sSeq_ret ?_
      refine sRet_ret [_] ⟨rfl, trivial⟩ ?_
      exact ⟨_, rfl⟩
    · skip
      refine s_skip ?_
      refine sBlock_normal ?_
      exact sIter_next w (by omega) (subCons rfl (subCons rfl (subCons rfl subNil))) (.refl _) trivial
  · skip
    refine s_exit ?_
    refine sSeq_exit ?_
    refine sIter_exit ?_
    refine sBlock_exit ?_
    refine sSeq_normal ?_
    refine s_seq ?_
    refine s_ops ?_
    refine o_mov rfl rfl ?_
    refine o_nil ?_
    refine sSeq_normal ?_
    refine s_ret ?_
    refine sRet_ret [_] ⟨rfl, trivial⟩ ?_
    exact ⟨_, rfl⟩

include hS in
theorem class_spec (r : Int) (H : Hp) : Sc E 66 [I32 r] H [] fun v _ => ∃ c e, v = .tuple ⟨[I64 c, I64 e]⟩ := by
  refine sc_body hS.h66 rfl ?_
  show Ss E _ _ _ c66.body _ _ _
  unfold c66
  refine s_seq ?_
  refine s_ops ?_
  refine o_mov rfl rfl ?_
  refine o_mov rfl rfl ?_
  refine o_nil ?_
  refine sSeq_normal ?_
  refine s_seq ?_
  refine s_block ?_
  refine s_seq ?_
  refine s_ops ?_
  refine o_mov rfl rfl ?_
  refine o_callE rfl (ha1 rfl) rfl (fun H1 _ => is_spec hS r H1) ?_
  rintro v ⟨pis, rfl⟩
  refine o_un rfl rfl rfl ?_
  refine o_mov rfl rfl ?_
  refine o_nil ?_
  refine sSeq_normal ?_
  refine s_cond rfl (fun hc0 => ?_) (fun hc0 => ?_)
  · skip
    refine s_seq ?_
    refine s_ops ?_
    refine o_mov rfl rfl ?_
    refine o_mov rfl rfl ?_
    refine o_nil ?_
    refine sSeq_normal ?_
    refine s_ret ?_
    refine sBlock_ret ?_
    refine sSeq_ret ?_
    refine sRet_ret [_, _] ⟨rfl, rfl, trivial⟩ ?_
    exact ⟨_, _, rfl⟩
  · skip
    refine s_seq ?_
    refine s_ops ?_
    refine o_mov rfl rfl ?_
    refine o_bin rfl rfl rfl rfl ?_
    refine o_mov rfl rfl ?_
    refine g_mov (by first | exact wanted_b rfl | exact wanted_g rfl) (by first | exact evG rfl | exact evG2 rfl | exact evG3 rfl | exact fun _ => rfl) rfl ?_
    refine g_bin (by first | exact wanted_b rfl | exact wanted_g rfl) (by first | exact evG rfl | exact evG2 rfl | exact evG3 rfl | exact fun _ => rfl) (by first | exact evG rfl | exact evG2 rfl | exact evG3 rfl | exact fun _ => rfl) (fun _ => rfl) rfl ?_
    refine o_pickB rfl (by first | exact fun h => evG rfl (by rw [h]; rfl) | exact fun _ => rfl) (by first | exact fun h => evG rfl (by rw [h]; rfl) | exact fun _ => rfl) rfl ?_
    refine o_mov rfl rfl ?_
    refine o_nil ?_
    refine sSeq_normal ?_
    refine s_cond rfl (fun hc1 => ?_) (fun hc1 => ?_)
    · skip
      refine s_seq ?_
      refine s_ops ?_
      refine o_mov rfl rfl ?_
      refine o_mov rfl rfl ?_
      refine o_nil ?_
      refine sSeq_normal ?_
      refine s_ret ?_
      refine sBlock_ret ?_
      refine sSeq_ret ?_
      refine sRet_ret [_, _] ⟨rfl, rfl, trivial⟩ ?_
      exact ⟨_, _, rfl⟩
    · skip
      refine s_seq ?_
      refine s_seq ?_
      refine s_ops ?_
      refine o_mov rfl rfl ?_
      refine o_bin rfl rfl rfl rfl ?_
      refine o_mov rfl rfl ?_
      refine g_mov (by first | exact wanted_b rfl | exact wanted_g rfl) (by first | exact evG rfl | exact evG2 rfl | exact evG3 rfl | exact fun _ => rfl) rfl ?_
      refine g_bin (by first | exact wanted_b rfl | exact wanted_g rfl) (by first | exact evG rfl | exact evG2 rfl | exact evG3 rfl | exact fun _ => rfl) (by first | exact evG rfl | exact evG2 rfl | exact evG3 rfl | exact fun _ => rfl) (fun _ => rfl) rfl ?_
      refine o_pickB rfl (by first | exact fun h => evG rfl (by rw [h]; rfl) | exact fun _ => rfl) (by first | exact fun h => evG rfl (by rw [h]; rfl) | exact fun _ => rfl) rfl ?_
      refine o_mov rfl rfl ?_
      refine o_nil ?_
      refine sSeq_normal ?_
      refine s_cond rfl (fun hc2 => ?_) (fun hc2 => ?_)
      · skip
        refine s_skip ?_
        refine sSeq_normal ?_
        refine s_cond rfl (fun hc4 => ?_) (fun hc4 => ?_)
        · skip
          refine s_seq ?_
          refine s_ops ?_
          refine o_mov rfl rfl ?_
          refine o_mov rfl rfl ?_
          refine o_nil ?_
          refine sSeq_normal ?_
          refine s_ret ?_
          refine sBlock_ret ?_
          refine sSeq_ret ?_
          refine sRet_ret [_, _] ⟨rfl, rfl, trivial⟩ ?_
          exact ⟨_, _, rfl⟩
        · skip
          refine s_skip ?_
          refine sBlock_normal ?_
          refine sSeq_normal ?_
          refine s_seq ?_
          refine s_seq ?_
          refine s_ops ?_
          refine o_call0 (v := .agg ⟨classStrs.map .string⟩) rfl ha0 rfl (fun H1 _ => classes_spec hS H1) ?_
          refine o_mov rfl rfl ?_
          refine o_nil ?_
          refine sSeq_normal ?_
          refine s_block ?_
          refine s_iter (α := Nat) (fun k => 10 - k) (fun k => [(0, I32 r), (32, .agg ⟨classStrs.map .string⟩), (33, I64 (k : Nat))]) (fun k => []) (fun k => k ≤ 10) 0 (subCons rfl (subCons rfl (subCons rfl subNil))) (List.nil_sublist _) (Nat.zero_le _) ?_
          intro k hk
          refine s_seq ?_
          refine s_ops ?_
          refine o_bin rfl rfl rfl rfl ?_
          refine o_nil ?_
          refine sSeq_normal ?_
          refine s_seq ?_
          refine s_cond rfl (fun hc5 => ?_) (fun hc5 => ?_)
          · have hk2 : k < 10 := by simp at hc5; omega
            obtain ⟨ck, hck⟩ : ∃ ck, classStrs[k]? = some ck := ⟨classStrs[k]'hk2, List.getElem?_eq_getElem hk2⟩
            refine s_skip ?_
            refine sSeq_normal ?_
            refine s_seq ?_
            refine s_block ?_
            refine s_seq ?_
            refine s_ops ?_
            refine o_mov rfl rfl ?_
            refine o_ida1 (v := .string ck) rfl rfl (by omega) (by omega) (by rw [Int.toNat_natCast, Nat.mul_one, List.getElem?_map, hck]; rfl) rfl ?_
            refine o_mov rfl rfl ?_
            refine o_mov rfl rfl ?_
            refine o_nil ?_
            refine sSeq_normal ?_
            refine s_seq ?_
            refine s_ops ?_
            refine o_mov rfl rfl ?_
            refine o_mov rfl rfl ?_
            refine o_callE rfl (ha2 rfl rfl) rfl (fun H1 _ => hasRune_spec hS ck r H1) ?_
            rintro v ⟨ph, rfl⟩
            refine o_nil ?_
            refine sSeq_normal ?_
            refine s_cond rfl (fun hc6 => ?_) (fun hc6 => ?_)
            · skip
              refine s_seq ?_
              refine s_ops ?_
              refine o_mov rfl rfl ?_
              refine o_mov rfl rfl ?_
              refine o_mov rfl rfl ?_
              refine o_nil ?_
              refine sSeq_normal ?_
              refine s_ret ?_
              refine sBlock_ret ?_
              refine sSeq_ret ?_
              refine sIter_ret ?_
              refine sBlock_ret ?_
              refine sSeq_ret ?_
              refine sRet_ret [_, _] ⟨rfl, rfl, trivial⟩ ?_
              exact ⟨_, _, rfl⟩
            · skip
              refine s_skip ?_
              refine sBlock_normal ?_
              refine sSeq_normal ?_
              refine s_ops ?_
              refine o_bin (v := I64 (k + 1 : Nat)) rfl rfl (by simp only [binV, binInt, if_true]; rw [wrap64 (by omega) (by omega)]; rfl) rfl ?_
              refine o_mov rfl rfl ?_
              refine o_nil ?_
              exact sIter_next (k + 1) (by omega) (subCons rfl (subCons rfl (subCons rfl subNil))) (List.nil_sublist _) hk2
          · skip
            refine s_exit ?_
            refine sSeq_exit ?_
            refine sIter_exit ?_
            refine sBlock_exit ?_
            refine sSeq_normal ?_
            refine s_seq ?_
            refine s_ops ?_
            refine o_mov rfl rfl ?_
            refine o_mov rfl rfl ?_
            refine o_nil ?_
            refine sSeq_normal ?_
            refine s_ret ?_
            refine sRet_ret [_, _] ⟨rfl, rfl, trivial⟩ ?_
            exact ⟨_, _, rfl⟩
      · skip
        refine s_seq ?_
        refine s_ops ?_
        refine o_mov rfl rfl ?_
        refine o_bin rfl rfl rfl rfl ?_
        refine o_mov rfl rfl ?_
        refine g_mov (by first | exact wanted_b rfl | exact wanted_g rfl) (by first | exact evG rfl | exact evG2 rfl | exact evG3 rfl | exact fun _ => rfl) rfl ?_
        refine g_bin (by first | exact wanted_b rfl | exact wanted_g rfl) (by first | exact evG rfl | exact evG2 rfl | exact evG3 rfl | exact fun _ => rfl) (by first | exact evG rfl | exact evG2 rfl | exact evG3 rfl | exact fun _ => rfl) (fun _ => rfl) rfl ?_
        refine o_pickB rfl (by first | exact fun h => evG rfl (by rw [h]; rfl) | exact fun _ => rfl) (by first | exact fun h => evG rfl (by rw [h]; rfl) | exact fun _ => rfl) rfl ?_
        refine o_mov rfl rfl ?_
        refine o_nil ?_
        refine sSeq_normal ?_
        refine s_cond rfl (fun hc3 => ?_) (fun hc3 => ?_)
        · skip
          refine s_skip ?_
          refine sSeq_normal ?_
          refine s_cond rfl (fun hc4 => ?_) (fun hc4 => ?_)
          · skip
            refine s_seq ?_
            refine s_ops ?_
            refine o_mov rfl rfl ?_
            refine o_mov rfl rfl ?_
            refine o_nil ?_
            refine sSeq_normal ?_
            refine s_ret ?_
            refine sBlock_ret ?_
            refine sSeq_ret ?_
            refine sRet_ret [_, _] ⟨rfl, rfl, trivial⟩ ?_
            exact ⟨_, _, rfl⟩
          · skip
            refine s_skip ?_
            refine sBlock_normal ?_
            refine sSeq_normal ?_
            refine s_seq ?_
            refine s_seq ?_
            refine s_ops ?_
            refine o_call0 (v := .agg ⟨classStrs.map .string⟩) rfl ha0 rfl (fun H1 _ => classes_spec hS H1) ?_
            refine o_mov rfl rfl ?_
            refine o_nil ?_
            refine sSeq_normal ?_
            refine s_block ?_
            refine s_iter (α := Nat) (fun k => 10 - k) (fun k => [(0, I32 r), (32, .agg ⟨classStrs.map .string⟩), (33, I64 (k : Nat))]) (fun k => []) (fun k => k ≤ 10) 0 (subCons rfl (subCons rfl (subCons rfl subNil))) (List.nil_sublist _) (Nat.zero_le _) ?_
            intro k hk
            refine s_seq ?_
            refine s_ops ?_
            refine o_bin rfl rfl rfl rfl ?_
            refine o_nil ?_
            refine sSeq_normal ?_
            refine s_seq ?_
            refine s_cond rfl (fun hc5 => ?_) (fun hc5 => ?_)
            · have hk2 : k < 10 := by simp at hc5; omega
              obtain ⟨ck, hck⟩ : ∃ ck, classStrs[k]? = some ck := ⟨classStrs[k]'hk2, List.getElem?_eq_getElem hk2⟩
              refine s_skip ?_
              refine sSeq_normal ?_
              refine s_seq ?_
              refine s_block ?_
              refine s_seq ?_
              refine s_ops ?_
              refine o_mov rfl rfl ?_
              refine o_ida1 (v := .string ck) rfl rfl (by omega) (by omega) (by rw [Int.toNat_natCast, Nat.mul_one, List.getElem?_map, hck]; rfl) rfl ?_
              refine o_mov rfl rfl ?_
              refine o_mov rfl rfl ?_
              refine o_nil ?_
              refine sSeq_normal ?_
              refine s_seq ?_
              refine s_ops ?_
              refine o_mov rfl rfl ?_
              refine o_mov rfl rfl ?_
              refine o_callE rfl (ha2 rfl rfl) rfl (fun H1 _ => hasRune_spec hS ck r H1) ?_
              rintro v ⟨ph, rfl⟩
              refine o_nil ?_
              refine sSeq_normal ?_
              refine s_cond rfl (fun hc6 => ?_) (fun hc6 => ?_)
              · skip
                refine s_seq ?_
                refine s_ops ?_
                refine o_mov rfl rfl ?_
                refine o_mov rfl rfl ?_
                refine o_mov rfl rfl ?_
                refine o_nil ?_
                refine sSeq_normal ?_
                refine s_ret ?_
                refine sBlock_ret ?_
                refine sSeq_ret ?_
                refine sIter_ret ?_
                refine sBlock_ret ?_
                refine sSeq_ret ?_
                refine sRet_ret [_, _] ⟨rfl, rfl, trivial⟩ ?_
                exact ⟨_, _, rfl⟩
              · skip
                refine s_skip ?_
                refine sBlock_normal ?_
                refine sSeq_normal ?_
                refine s_ops ?_
                refine o_bin (v := I64 (k + 1 : Nat)) rfl rfl (by simp only [binV, binInt, if_true]; rw [wrap64 (by omega) (by omega)]; rfl) rfl ?_
                refine o_mov rfl rfl ?_
                refine o_nil ?_
                exact sIter_next (k + 1) (by omega) (subCons rfl (subCons rfl (subCons rfl subNil))) (List.nil_sublist _) hk2
            · skip
              refine s_exit ?_
              refine sSeq_exit ?_
              refine sIter_exit ?_
              refine sBlock_exit ?_
              refine sSeq_normal ?_
              refine s_seq ?_
              refine s_ops ?_
              refine o_mov rfl rfl ?_
              refine o_mov rfl rfl ?_
              refine o_nil ?_
              refine sSeq_normal ?_
              refine s_ret ?_
              refine sRet_ret [_, _] ⟨rfl, rfl, trivial⟩ ?_
              exact ⟨_, _, rfl⟩
        · skip
          refine s_ops ?_
          refine o_mov rfl rfl ?_
          refine o_bin rfl rfl rfl rfl ?_
          refine o_mov rfl rfl ?_
          refine o_nil ?_
          refine sSeq_normal ?_
          refine s_cond rfl (fun hc4 => ?_) (fun hc4 => ?_)
          · skip
            refine s_seq ?_
            refine s_ops ?_
            refine o_mov rfl rfl ?_
            refine o_mov rfl rfl ?_
            refine o_nil ?_
            refine sSeq_normal ?_
            refine s_ret ?_
            refine sBlock_ret ?_
            refine sSeq_ret ?_
            refine sRet_ret [_, _] ⟨rfl, rfl, trivial⟩ ?_
            exact ⟨_, _, rfl⟩
          · skip
            refine s_skip ?_
            refine sBlock_normal ?_
            refine sSeq_normal ?_
            refine s_seq ?_
            refine s_seq ?_
            refine s_ops ?_
            refine o_call0 (v := .agg ⟨classStrs.map .string⟩) rfl ha0 rfl (fun H1 _ => classes_spec hS H1) ?_
            refine o_mov rfl rfl ?_
            refine o_nil ?_
            refine sSeq_normal ?_
            refine s_block ?_
            refine s_iter (α := Nat) (fun k => 10 - k) (fun k => [(0, I32 r), (32, .agg ⟨classStrs.map .string⟩), (33, I64 (k : Nat))]) (fun k => []) (fun k => k ≤ 10) 0 (subCons rfl (subCons rfl (subCons rfl subNil))) (List.nil_sublist _) (Nat.zero_le _) ?_
            intro k hk
            refine s_seq ?_
            refine s_ops ?_
            refine o_bin rfl rfl rfl rfl ?_
            refine o_nil ?_
            refine sSeq_normal ?_
            refine s_seq ?_
            refine s_cond rfl (fun hc5 => ?_) (fun hc5 => ?_)
            · have hk2 : k < 10 := by simp at hc5; omega
              obtain ⟨ck, hck⟩ : ∃ ck, classStrs[k]? = some ck := ⟨classStrs[k]'hk2, List.getElem?_eq_getElem hk2⟩
              refine s_skip ?_
              refine sSeq_normal ?_
              refine s_seq ?_
              refine s_block ?_
              refine s_seq ?_
              refine s_ops ?_
              refine o_mov rfl rfl ?_
              refine o_ida1 (v := .string ck) rfl rfl (by omega) (by omega) (by rw [Int.toNat_natCast, Nat.mul_one, List.getElem?_map, hck]; rfl) rfl ?_
              refine o_mov rfl rfl ?_
              refine o_mov rfl rfl ?_
              refine o_nil ?_
              refine sSeq_normal ?_
              refine s_seq ?_
              refine s_ops ?_
              refine o_mov rfl rfl ?_
              refine o_mov rfl rfl ?_
              refine o_callE rfl (ha2 rfl rfl) rfl (fun H1 _ => hasRune_spec hS ck r H1) ?_
              rintro v ⟨ph, rfl⟩
              refine o_nil ?_
              refine sSeq_normal ?_
              refine s_cond rfl (fun hc6 => ?_) (fun hc6 => ?_)
              · skip
                refine s_seq ?_
                refine s_ops ?_
                refine o_mov rfl rfl ?_
                refine o_mov rfl rfl ?_
                refine o_mov rfl rfl ?_
                refine o_nil ?_
                refine sSeq_normal ?_
                refine s_ret ?_
                refine sBlock_ret ?_
                refine sSeq_ret ?_
                refine sIter_ret ?_
                refine sBlock_ret ?_
                refine sSeq_ret ?_
                refine sRet_ret [_, _] ⟨rfl, rfl, trivial⟩ ?_
                exact ⟨_, _, rfl⟩
              · skip
                refine s_skip ?_
                refine sBlock_normal ?_
                refine sSeq_normal ?_
                refine s_ops ?_
                refine o_bin (v := I64 (k + 1 : Nat)) rfl rfl (by simp only [binV, binInt, if_true]; rw [wrap64 (by omega) (by omega)]; rfl) rfl ?_
                refine o_mov rfl rfl ?_
                refine o_nil ?_
                exact sIter_next (k + 1) (by omega) (subCons rfl (subCons rfl (subCons rfl subNil))) (List.nil_sublist _) hk2
            · skip
              refine s_exit ?_
              refine sSeq_exit ?_
              refine sIter_exit ?_
              refine sBlock_exit ?_
              refine sSeq_normal ?_
              refine s_seq ?_
              refine s_ops ?_
              refine o_mov rfl rfl ?_
              refine o_mov rfl rfl ?_
              refine o_nil ?_
              refine sSeq_normal ?_
              refine s_ret ?_
              refine sRet_ret [_, _] ⟨rfl, rfl, trivial⟩ ?_
              exact ⟨_, _, rfl⟩

end Go.Proofs.YtfonnebpnobomaaDoor.W
namespace Go.Proofs.YtfonnebpnobomaaDoor.W
open Go Am code
set_option maxRecDepth 100000
set_option maxHeartbeats 4000000
set_option linter.unusedSimpArgs false
set_option linter.unusedVariables false
variable {E : Env} (hS : HasS E)

def firstN : List Nat := Go.Pinned.utf8FirstZ
def firstT : List Value := firstN.map fun k => U8 (k : Nat)
def accN : List Nat := [128, 191, 160, 191, 128, 159, 144, 191, 128, 143, 0, 0, 0, 0, 0, 0, 0, 0, 0, 0, 0, 0, 0, 0, 0, 0, 0, 0, 0, 0, 0, 0]
def accT : List Value := accN.map fun k => U8 (k : Nat)
/-- the two tables of unicode/utf8 lie in the memory -/
structure TabOK (H : Hp) : Prop where
  t0 : H.get 0 = .row firstT false
  t1 : H.get 1 = .row accT false
  sz : 1 < H.size
theorem TabOK.mono {H H1 : Hp} {M : Ms} (h : TabOK H) (h1 : St H [] H1 M) : TabOK H1 :=
  ⟨by rw [h1.old 0 (by have := h.sz; omega) (by simp)]; exact h.t0, by rw [h1.old 1 h.sz (by simp)]; exact h.t1, Nat.lt_of_lt_of_le h.sz h1.size⟩
theorem first_len : firstN.length = 256 := by decide +kernel
theorem first_all : (firstN.all fun f => decide (f < 256) && (decide (240 ≤ f) || decide (2 ≤ f % 8))) = true := by decide +kernel
theorem first_at (c : Nat) (hc : c < 256) : ∃ f, firstN[c]? = some f ∧ f < 256 ∧ (f < 240 → 2 ≤ f % 8) := by
  have h : c < firstN.length := by rw [first_len]; exact hc
  refine ⟨firstN[c], List.getElem?_eq_getElem h, ?_⟩
  have := List.all_eq_true.1 first_all firstN[c] (List.getElem_mem h)
  simp only [Bool.and_eq_true, Bool.or_eq_true, decide_eq_true_eq] at this
  exact ⟨this.1, fun h2 => by omega⟩
theorem TabOK.first {H : Hp} (h : TabOK H) {c f : Nat} (hf : firstN[c]? = some f) : H.cell? ⟨0, 0 + (c : Int).toNat * 1, none⟩ = some (U8 (f : Nat)) := by
  refine Am.cell_of_row h.t0 ?_
  show firstT[0 + (c : Int).toNat * 1]? = _
  rw [Int.toNat_natCast, Nat.mul_one, Nat.zero_add]
  unfold firstT
  rw [List.getElem?_map, hf]; rfl
theorem TabOK.acc {H : Hp} (h : TabOK H) {q : Nat} (hq : q < 16) : ∃ lo hi : Int, H.cells? ⟨1, 0 + (q : Int).toNat * 2, none⟩ 2 = some [U8 lo, U8 hi] := by
  have hl : accT.length = 32 := by decide
  have h0 : q * 2 < accT.length := by omega
  have h1 : q * 2 + 1 < accT.length := by omega
  have g : ∀ (i : Nat) (hi : i < accT.length), ∃ z : Int, accT[i] = U8 z := fun i hi => by
    have hm : accT[i] ∈ accN.map fun k => U8 (k : Nat) := List.getElem_mem hi
    obtain ⟨k, _, hk⟩ := List.mem_map.1 hm
    exact ⟨_, hk.symm⟩
  obtain ⟨lo, e0⟩ := g _ h0
  obtain ⟨hi, e1⟩ := g _ h1
  refine ⟨lo, hi, ?_⟩
  have hk : 0 + (q : Int).toNat * 2 + 2 ≤ accT.length := by rw [Int.toNat_natCast]; omega
  simp only [Hp.cells?, h.t1]
  rw [if_pos hk, Int.toNat_natCast, Nat.zero_add, List.drop_eq_getElem_cons h0, e0, List.drop_eq_getElem_cons h1, e1]
  rfl
theorem and7 : ∀ f : Fin 256, IntKind.wrap .u8 (((BitVec.ofInt 8 (f.1 : Int) &&& BitVec.ofInt 8 7).toNat : Nat) : Int) = ((f.1 % 8 : Nat) : Int) := by decide +kernel
theorem binAnd7 {f : Nat} (hf : f < 256) : binV .and (U8 (f : Nat)) (U8 7) = some (U8 ((f % 8 : Nat) : Int)) := by
  show some (Value.int .u8 (IntKind.wrap .u8 (((BitVec.ofInt 8 (f : Int) &&& BitVec.ofInt 8 7).toNat : Nat) : Int))) = _
  rw [and7 ⟨f, hf⟩]
theorem binShr4 {f : Nat} : binV .shr (U8 (f : Nat)) (.int .u64 4) = some (U8 ((f / 16 : Nat) : Int)) := by
  simp only [binV, IntKind.bits]
  rw [if_neg (by decide), Int.fdiv_eq_ediv_of_nonneg _ (by decide)]
  have : ((2 : Int) ^ (min (4 : Int).toNat 8)) = 16 := by decide
  rw [this, Int.natCast_ediv]; rfl
/-- bytes -/
def u8s (bs : List UInt8) : List (List Value) := bs.map fun b => [U8 (b.toNat : Nat)]
theorem u8s_len (bs : List UInt8) : (u8s bs).length = bs.length := by simp [u8s]
theorem sl_u8 {H : Hp} {ob : Option Addr} {bs : List UInt8} (h : SlE H 1 ob (u8s bs)) {i : Nat} (hi : i < bs.length) : ∃ c : Nat, c < 256 ∧ ob.isSome = true ∧ (adr ob 1 i).block < H.size ∧ H.cell? (adr ob 1 i) = some (U8 (c : Nat)) := by
  have hi' : i < (u8s bs).length := by rw [u8s_len]; exact hi
  have hg := h.get hi'
  refine ⟨bs[i].toNat, bs[i].toNat_lt, hg.1, hg.2.1, ?_⟩
  have := h.cell (i := i) (j := 0) (v := U8 (bs[i].toNat : Nat)) hi' (by simp [u8s])
  exact this

include hS in
theorem decodeSlow_spec (bs : List UInt8) (H : Hp) (hT : TabOK H) (ob : Option Addr) (cap : Nat) (hsl : SlE H 1 ob (u8s bs)) (hlen : bs.length ≤ 1000000) : Sc E 95 [.slice ob bs.length cap] H [] fun v _ => ∃ r w, v = .tuple ⟨[I32 r, I64 w]⟩ ∧ (0 < bs.length → 1 ≤ w ∧ w ≤ bs.length) := by
  refine sc_body hS.h95 rfl ?_
  show Ss E _ _ _ c95.body _ _ _
  unfold c95
  refine s_seq ?_
  refine s_ops ?_
  refine o_mov rfl rfl ?_
  refine o_mov rfl rfl ?_
  refine o_nil ?_
  refine sSeq_normal ?_
  refine s_seq ?_
  refine s_ops ?_
  refine o_mov rfl rfl ?_
  refine o_lnl rfl rfl ?_
  refine o_mov rfl rfl ?_
  refine o_nil ?_
  refine sSeq_normal ?_
  refine s_seq ?_
  refine s_seq ?_
  refine s_ops ?_
  refine o_mov rfl rfl ?_
  refine o_bin rfl rfl rfl rfl ?_
  refine o_nil ?_
  refine sSeq_normal ?_
  refine s_cond rfl (fun hc0 => ?_) (fun hc0 => ?_)
  · have h0 : ¬ 0 < bs.length := by simp at hc0; omega
    refine s_seq ?_
    refine s_ops ?_
    refine o_mov rfl rfl ?_
    refine o_mov rfl rfl ?_
    refine o_nil ?_
    refine sSeq_normal ?_
    refine s_ret ?_
    refine sSeq_ret ?_
    refine sRet_ret [_, _] ⟨rfl, rfl, trivial⟩ ?_
    exact ⟨_, _, rfl, fun h => by omega⟩
  · have h0 : 0 < bs.length := by simp at hc0; omega
    obtain ⟨b0, hb0, g0a, g0b, g0c⟩ := sl_u8 hsl (i := 0) (by omega)
    obtain ⟨f, hf1, hf2, hf3⟩ := first_at b0 hb0
    have hcf := hT.first hf1
    obtain ⟨lo, hi, hacc⟩ := hT.acc (q := f / 16) (by omega)
    refine s_skip ?_
    refine sSeq_normal ?_
    refine s_seq ?_
    refine s_ops ?_
    refine o_mov rfl rfl ?_
    refine o_iad (i := 0) rfl rfl h0 g0a rfl ?_
    refine o_ld1_old rfl g0b (by simp) g0c rfl ?_
    refine o_mov rfl rfl ?_
    refine o_nil ?_
    refine sSeq_normal ?_
    refine s_seq ?_
    refine s_ops ?_
    refine o_mov rfl rfl ?_
    refine o_iaa rfl rfl (by omega) (by omega) rfl ?_
    refine o_ld1_old rfl (by have := hT.sz; show 0 < H.size; omega) (by simp) hcf rfl ?_
    refine o_mov rfl rfl ?_
    refine o_nil ?_
    refine sSeq_normal ?_
    refine s_seq ?_
    refine s_seq ?_
    refine s_ops ?_
    refine o_mov rfl rfl ?_
    refine o_bin rfl rfl rfl rfl ?_
    refine o_nil ?_
    refine sSeq_normal ?_
    refine s_cond rfl (fun hc1 => ?_) (fun hc1 => ?_)
    · skip
      refine s_seq ?_
      refine s_ops ?_
      refine o_mov rfl rfl ?_
      refine o_cvi rfl rfl ?_
      refine o_bin rfl rfl rfl rfl ?_
      refine o_bin rfl rfl rfl rfl ?_
      refine o_mov rfl rfl ?_
      refine o_nil ?_
      refine sSeq_normal ?_
      refine s_seq ?_
      refine s_ops ?_
      refine o_mov rfl rfl ?_
      refine o_iad (i := 0) rfl rfl h0 g0a rfl ?_
      refine o_ld1_old rfl g0b (by simp) g0c rfl ?_
      refine o_cvi rfl rfl ?_
      refine o_mov rfl rfl ?_
      refine o_bin rfl rfl rfl rfl ?_
      refine o_mov rfl rfl ?_
      refine o_bin rfl rfl rfl rfl ?_
      refine o_bin rfl rfl rfl rfl ?_
      refine o_mov rfl rfl ?_
      refine o_mov rfl rfl ?_
      refine o_nil ?_
      refine sSeq_normal ?_
      refine s_ret ?_
      refine sSeq_ret ?_
      refine sRet_ret [_, _] ⟨rfl, rfl, trivial⟩ ?_
      exact ⟨_, _, rfl, fun h => by omega⟩
    · have hf4 : 2 ≤ f % 8 := hf3 (by simp at hc1; omega)
      refine s_skip ?_
      refine sSeq_normal ?_
      refine s_seq ?_
      refine s_ops ?_
      refine o_mov rfl rfl ?_
      refine o_bin rfl rfl (binAnd7 hf2) rfl ?_
      refine o_cvi rfl rfl ?_
      rw [wrap64 (z := ((f % 8 : Nat) : Int)) (by omega) (by omega)]
      refine o_mov rfl rfl ?_
      refine o_nil ?_
      refine sSeq_normal ?_
      refine s_seq ?_
      refine s_ops ?_
      refine o_mov rfl rfl ?_
      refine o_bin rfl rfl binShr4 rfl ?_
      refine o_iaa rfl rfl (by omega) (by omega) rfl ?_
      refine o_ld_old rfl (by show 1 < H.size; exact hT.sz) (by simp) hacc rfl ?_
      refine o_newz rfl (fun b43 => ?_)
      refine o_stN (M1 := []) (cn := [U8 lo, U8 hi]) rfl rfl rfl rfl (by show 0 + 2 ≤ 2; exact Nat.le_refl _) rfl rfl ?_
      refine o_nil ?_
      refine sSeq_normal ?_
      refine s_seq ?_
      refine s_seq ?_
      refine s_ops ?_
      refine o_mov rfl rfl ?_
      refine o_mov rfl rfl ?_
      refine o_bin rfl rfl rfl rfl ?_
      refine o_nil ?_
      refine sSeq_normal ?_
      refine s_cond rfl (fun hc2 => ?_) (fun hc2 => ?_)
      · skip
        refine s_seq ?_
        refine s_ops ?_
        refine o_mov rfl rfl ?_
        refine o_mov rfl rfl ?_
        refine o_nil ?_
        refine sSeq_normal ?_
        refine s_ret ?_
        refine sSeq_ret ?_
        refine sRet_ret [_, _] ⟨rfl, rfl, trivial⟩ ?_
        exact ⟨_, _, rfl, fun h => by omega⟩
      · have hn2 : f % 8 ≤ bs.length := by simp at hc2; omega
        obtain ⟨b1, hb1, g1a, g1b, g1c⟩ := sl_u8 hsl (i := 1) (by omega)
        refine s_skip ?_
        refine sSeq_normal ?_
        refine s_seq ?_
        refine s_ops ?_
        refine o_mov rfl rfl ?_
        refine o_iad (i := 1) rfl rfl (by omega) g1a rfl ?_
        refine o_ld1_old rfl g1b (by simp) g1c rfl ?_
        refine o_mov rfl rfl ?_
        refine o_nil ?_
        refine sSeq_normal ?_
        refine s_seq ?_
        refine s_seq ?_
        refine s_ops ?_
        refine o_mov rfl rfl ?_
        refine o_fad rfl rfl ?_
        refine o_ld1 rfl (by first | exact .head _ | exact .tail _ (.head _) | exact .tail _ (.tail _ (.head _)) | exact .tail _ (.tail _ (.tail _ (.head _))) | exact .tail _ (.tail _ (.tail _ (.tail _ (.head _))))) rfl rfl ?_
        refine o_bin rfl rfl rfl rfl ?_
        refine o_mov rfl rfl ?_
        refine g_fad (by first | exact wanted_b rfl | exact wanted_g rfl) (by first | exact evG rfl | exact evG2 rfl | exact evG3 rfl | exact fun _ => rfl) rfl ?_
        refine g_ld1 (by first | exact wanted_b rfl | exact wanted_g rfl) (by first | exact evG rfl | exact evG2 rfl | exact evG3 rfl | exact fun _ => rfl) (by first | exact .head _ | exact .tail _ (.head _) | exact .tail _ (.tail _ (.head _)) | exact .tail _ (.tail _ (.tail _ (.head _))) | exact .tail _ (.tail _ (.tail _ (.tail _ (.head _))))) rfl rfl ?_
        refine g_mov (by first | exact wanted_b rfl | exact wanted_g rfl) (by first | exact evG rfl | exact evG2 rfl | exact evG3 rfl | exact fun _ => rfl) rfl ?_
        refine g_bin (by first | exact wanted_b rfl | exact wanted_g rfl) (by first | exact evG rfl | exact evG2 rfl | exact evG3 rfl | exact fun _ => rfl) (by first | exact evG rfl | exact evG2 rfl | exact evG3 rfl | exact fun _ => rfl) (fun _ => rfl) rfl ?_
        refine o_pickB rfl (by first | exact fun h => evG rfl (by rw [h]; rfl) | exact fun _ => rfl) (by first | exact fun h => evG rfl (by rw [h]; rfl) | exact fun _ => rfl) rfl ?_
        refine o_nil ?_
        refine sSeq_normal ?_
        refine s_cond rfl (fun hc3 => ?_) (fun hc3 => ?_)
        · skip
          refine s_seq ?_
          refine s_ops ?_
          refine o_mov rfl rfl ?_
          refine o_mov rfl rfl ?_
          refine o_nil ?_
          refine sSeq_normal ?_
          refine s_ret ?_
          refine sSeq_ret ?_
          refine sRet_ret [_, _] ⟨rfl, rfl, trivial⟩ ?_
          exact ⟨_, _, rfl, fun h => by omega⟩
        · skip
          refine s_skip ?_
          refine sSeq_normal ?_
          refine s_seq ?_
          refine s_seq ?_
          refine s_ops ?_
          refine o_mov rfl rfl ?_
          refine o_bin rfl rfl rfl rfl ?_
          refine o_nil ?_
          refine sSeq_normal ?_
          refine s_cond rfl (fun hc4 => ?_) (fun hc4 => ?_)
          · skip
            refine s_seq ?_
            refine s_ops ?_
            refine o_mov rfl rfl ?_
            refine o_bin rfl rfl rfl rfl ?_
            refine o_cvi rfl rfl ?_
            refine o_bin rfl rfl rfl rfl ?_
            refine o_mov rfl rfl ?_
            refine o_bin rfl rfl rfl rfl ?_
            refine o_cvi rfl rfl ?_
            refine o_bin rfl rfl rfl rfl ?_
            refine o_mov rfl rfl ?_
            refine o_mov rfl rfl ?_
            refine o_nil ?_
            refine sSeq_normal ?_
            refine s_ret ?_
            refine sSeq_ret ?_
            refine sRet_ret [_, _] ⟨rfl, rfl, trivial⟩ ?_
            exact ⟨_, _, rfl, fun h => by omega⟩
          · have hn3 : 3 ≤ f % 8 := by simp at hc4; omega
            obtain ⟨b2, hb2, g2a, g2b, g2c⟩ := sl_u8 hsl (i := 2) (by omega)
            refine s_skip ?_
            refine sSeq_normal ?_
            refine s_seq ?_
            refine s_ops ?_
            refine o_mov rfl rfl ?_
            refine o_iad (i := 2) rfl rfl (by omega) g2a rfl ?_
            refine o_ld1_old rfl g2b (by simp) g2c rfl ?_
            refine o_mov rfl rfl ?_
            refine o_nil ?_
            refine sSeq_normal ?_
            refine s_seq ?_
            refine s_seq ?_
            refine s_ops ?_
            refine o_mov rfl rfl ?_
            refine o_bin rfl rfl rfl rfl ?_
            refine o_mov rfl rfl ?_
            refine g_mov (by first | exact wanted_b rfl | exact wanted_g rfl) (by first | exact evG rfl | exact evG2 rfl | exact evG3 rfl | exact fun _ => rfl) rfl ?_
            refine g_bin (by first | exact wanted_b rfl | exact wanted_g rfl) (by first | exact evG rfl | exact evG2 rfl | exact evG3 rfl | exact fun _ => rfl) (by first | exact evG rfl | exact evG2 rfl | exact evG3 rfl | exact fun _ => rfl) (fun _ => rfl) rfl ?_
            refine o_pickB rfl (by first | exact fun h => evG rfl (by rw [h]; rfl) | exact fun _ => rfl) (by first | exact fun h => evG rfl (by rw [h]; rfl) | exact fun _ => rfl) rfl ?_
            refine o_nil ?_
            refine sSeq_normal ?_
            refine s_cond rfl (fun hc5 => ?_) (fun hc5 => ?_)
            · skip
              refine s_seq ?_
              refine s_ops ?_
              refine o_mov rfl rfl ?_
              refine o_mov rfl rfl ?_
              refine o_nil ?_
              refine sSeq_normal ?_
              refine s_ret ?_
              refine sSeq_ret ?_
              refine sRet_ret [_, _] ⟨rfl, rfl, trivial⟩ ?_
              exact ⟨_, _, rfl, fun h => by omega⟩
            · skip
              refine s_skip ?_
              refine sSeq_normal ?_
              refine s_seq ?_
              refine s_seq ?_
              refine s_ops ?_
              refine o_mov rfl rfl ?_
              refine o_bin rfl rfl rfl rfl ?_
              refine o_nil ?_
              refine sSeq_normal ?_
              refine s_cond rfl (fun hc6 => ?_) (fun hc6 => ?_)
              · skip
                refine s_seq ?_
                refine s_ops ?_
                refine o_mov rfl rfl ?_
                refine o_bin rfl rfl rfl rfl ?_
                refine o_cvi rfl rfl ?_
                refine o_bin rfl rfl rfl rfl ?_
                refine o_mov rfl rfl ?_
                refine o_bin rfl rfl rfl rfl ?_
                refine o_cvi rfl rfl ?_
                refine o_bin rfl rfl rfl rfl ?_
                refine o_bin rfl rfl rfl rfl ?_
                refine o_mov rfl rfl ?_
                refine o_bin rfl rfl rfl rfl ?_
                refine o_cvi rfl rfl ?_
                refine o_bin rfl rfl rfl rfl ?_
                refine o_mov rfl rfl ?_
                refine o_mov rfl rfl ?_
                refine o_nil ?_
                refine sSeq_normal ?_
                refine s_ret ?_
                refine sSeq_ret ?_
                refine sRet_ret [_, _] ⟨rfl, rfl, trivial⟩ ?_
                exact ⟨_, _, rfl, fun h => by omega⟩
              · have hn4 : 4 ≤ f % 8 := by simp at hc6; omega
                obtain ⟨b3, hb3, g3a, g3b, g3c⟩ := sl_u8 hsl (i := 3) (by omega)
                refine s_skip ?_
                refine sSeq_normal ?_
                refine s_seq ?_
                refine s_ops ?_
                refine o_mov rfl rfl ?_
                refine o_iad (i := 3) rfl rfl (by omega) g3a rfl ?_
                refine o_ld1_old rfl g3b (by simp) g3c rfl ?_
                refine o_mov rfl rfl ?_
                refine o_nil ?_
                refine sSeq_normal ?_
                refine s_seq ?_
                refine s_seq ?_
                refine s_ops ?_
                refine o_mov rfl rfl ?_
                refine o_bin rfl rfl rfl rfl ?_
                refine o_mov rfl rfl ?_
                refine g_mov (by first | exact wanted_b rfl | exact wanted_g rfl) (by first | exact evG rfl | exact evG2 rfl | exact evG3 rfl | exact fun _ => rfl) rfl ?_
                refine g_bin (by first | exact wanted_b rfl | exact wanted_g rfl) (by first | exact evG rfl | exact evG2 rfl | exact evG3 rfl | exact fun _ => rfl) (by first | exact evG rfl | exact evG2 rfl | exact evG3 rfl | exact fun _ => rfl) (fun _ => rfl) rfl ?_
                refine o_pickB rfl (by first | exact fun h => evG rfl (by rw [h]; rfl) | exact fun _ => rfl) (by first | exact fun h => evG rfl (by rw [h]; rfl) | exact fun _ => rfl) rfl ?_
                refine o_nil ?_
                refine sSeq_normal ?_
                refine s_cond rfl (fun hc7 => ?_) (fun hc7 => ?_)
                · skip
                  refine s_seq ?_
                  refine s_ops ?_
                  refine o_mov rfl rfl ?_
                  refine o_mov rfl rfl ?_
                  refine o_nil ?_
                  refine sSeq_normal ?_
                  refine s_ret ?_
                  refine sSeq_ret ?_
                  refine sRet_ret [_, _] ⟨rfl, rfl, trivial⟩ ?_
                  exact ⟨_, _, rfl, fun h => by omega⟩
                · skip
                  refine s_skip ?_
                  refine sSeq_normal ?_
                  refine s_seq ?_
                  refine s_ops ?_
                  refine o_mov rfl rfl ?_
                  refine o_bin rfl rfl rfl rfl ?_
                  refine o_cvi rfl rfl ?_
                  refine o_bin rfl rfl rfl rfl ?_
                  refine o_mov rfl rfl ?_
                  refine o_bin rfl rfl rfl rfl ?_
                  refine o_cvi rfl rfl ?_
                  refine o_bin rfl rfl rfl rfl ?_
                  refine o_bin rfl rfl rfl rfl ?_
                  refine o_mov rfl rfl ?_
                  refine o_bin rfl rfl rfl rfl ?_
                  refine o_cvi rfl rfl ?_
                  refine o_bin rfl rfl rfl rfl ?_
                  refine o_bin rfl rfl rfl rfl ?_
                  refine o_mov rfl rfl ?_
                  refine o_bin rfl rfl rfl rfl ?_
                  refine o_cvi rfl rfl ?_
                  refine o_bin rfl rfl rfl rfl ?_
                  refine o_mov rfl rfl ?_
                  refine o_mov rfl rfl ?_
                  refine o_nil ?_
                  refine sSeq_normal ?_
                  refine s_ret ?_
                  refine sRet_ret [_, _] ⟨rfl, rfl, trivial⟩ ?_
                  exact ⟨_, _, rfl, fun h => by omega⟩

include hS in
theorem decodeRune_spec (bs : List UInt8) (H : Hp) (hT : TabOK H) (ob : Option Addr) (cap : Nat) (hsl : SlE H 1 ob (u8s bs)) (hlen : bs.length ≤ 1000000) : Sc E 92 [.slice ob bs.length cap] H [] fun v _ => ∃ r w, v = .tuple ⟨[I32 r, I64 w]⟩ ∧ (0 < bs.length → 1 ≤ w ∧ w ≤ bs.length) := by
  refine sc_body hS.h92 rfl ?_
  show Ss E _ _ _ c92.body _ _ _
  unfold c92
  refine s_seq ?_
  refine s_ops ?_
  refine o_mov rfl rfl ?_
  refine o_mov rfl rfl ?_
  refine o_nil ?_
  refine sSeq_normal ?_
  refine s_seq ?_
  refine s_seq ?_
  refine s_ops ?_
  refine o_mov rfl rfl ?_
  refine o_lnl rfl rfl ?_
  refine o_mov rfl rfl ?_
  refine o_nil ?_
  refine sSeq_normal ?_
  refine s_block ?_
  refine s_iter (α := Unit) (fun _ => 0) (fun _ => [(0, .slice ob bs.length cap), (6, .slice ob bs.length cap), (7, I64 (bs.length : Nat)), (8, I64 0)]) (fun _ => []) (fun _ => True) () (subCons rfl (subCons rfl (subCons rfl (subCons rfl subNil)))) (List.nil_sublist _) trivial ?_
  intro _ _
  refine s_seq ?_
  refine s_ops ?_
  refine o_bin rfl rfl rfl rfl ?_
  refine o_nil ?_
  refine sSeq_normal ?_
  refine s_seq ?_
  refine s_cond rfl (fun hc0 => ?_) (fun hc0 => ?_)
  · have h0 : 0 < bs.length := by simp at hc0; omega
    obtain ⟨b0, hb0, g0a, g0b, g0c⟩ := sl_u8 hsl (i := 0) (by omega)
    refine s_skip ?_
    refine sSeq_normal ?_
    refine s_seq ?_
    refine s_block ?_
    refine s_seq ?_
    refine s_ops ?_
    refine o_iad (i := 0) rfl rfl h0 g0a rfl ?_
    refine o_ld1_old rfl g0b (by simp) g0c rfl ?_
    refine o_mov rfl rfl ?_
    refine o_nil ?_
    refine sSeq_normal ?_
    refine s_seq ?_
    refine s_seq ?_
    refine s_ops ?_
    refine o_mov rfl rfl ?_
    refine o_bin rfl rfl rfl rfl ?_
    refine o_nil ?_
    refine sSeq_normal ?_
    refine s_cond rfl (fun hc1 => ?_) (fun hc1 => ?_)
    · skip
      refine s_seq ?_
      refine s_ops ?_
      refine o_mov rfl rfl ?_
      refine o_cvi rfl rfl ?_
      refine o_mov rfl rfl ?_
      refine o_mov rfl rfl ?_
      refine o_nil ?_
      refine sSeq_normal ?_
      refine s_ret ?_
      refine sSeq_ret ?_
      refine sBlock_ret ?_
      refine sSeq_ret ?_
      refine sIter_ret ?_
      refine sBlock_ret ?_
      refine sSeq_ret ?_
      refine sRet_ret [_, _] ⟨rfl, rfl, trivial⟩ ?_
      first | exact ⟨_, _, rfl, hw⟩ | exact ⟨_, _, rfl, fun h => by omega⟩
    · skip
      refine s_skip ?_
      refine sSeq_normal ?_
      refine s_exit ?_
      refine sBlock_out rfl ?_
      refine sSeq_exit ?_
      refine sIter_exit ?_
      refine sBlock_exit ?_
      refine sSeq_normal ?_
      refine s_seq ?_
      refine s_ops ?_
      refine o_mov rfl rfl ?_
      refine o_callE rfl (ha1 rfl) rfl (fun H1 hH1 => decodeSlow_spec hS bs H1 (hT.mono hH1) ob cap (hsl.mono hH1 (fun _ _ => by simp)) hlen) ?_
      rintro v ⟨r, w, rfl, hw⟩
      refine o_mov rfl rfl ?_
      refine o_ext rfl rfl rfl ?_
      refine o_ext rfl rfl rfl ?_
      refine o_mov rfl rfl ?_
      refine o_mov rfl rfl ?_
      refine o_nil ?_
      refine sSeq_normal ?_
      refine s_ret ?_
      refine sRet_ret [_, _] ⟨rfl, rfl, trivial⟩ ?_
      first | exact ⟨_, _, rfl, hw⟩ | exact ⟨_, _, rfl, fun h => by omega⟩
  · skip
    refine s_exit ?_
    refine sSeq_exit ?_
    refine sIter_exit ?_
    refine sBlock_exit ?_
    refine sSeq_normal ?_
    refine s_seq ?_
    refine s_ops ?_
    refine o_mov rfl rfl ?_
    refine o_callE rfl (ha1 rfl) rfl (fun H1 hH1 => decodeSlow_spec hS bs H1 (hT.mono hH1) ob cap (hsl.mono hH1 (fun _ _ => by simp)) hlen) ?_
    rintro v ⟨r, w, rfl, hw⟩
    refine o_mov rfl rfl ?_
    refine o_ext rfl rfl rfl ?_
    refine o_ext rfl rfl rfl ?_
    refine o_mov rfl rfl ?_
    refine o_mov rfl rfl ?_
    refine o_nil ?_
    refine sSeq_normal ?_
    refine s_ret ?_
    refine sRet_ret [_, _] ⟨rfl, rfl, trivial⟩ ?_
    first | exact ⟨_, _, rfl, hw⟩ | exact ⟨_, _, rfl, fun h => by omega⟩

end Go.Proofs.YtfonnebpnobomaaDoor.W
namespace Go.Proofs.YtfonnebpnobomaaDoor.W
open Go Am code
set_option maxRecDepth 100000
set_option maxHeartbeats 4000000
set_option linter.unusedSimpArgs false
set_option linter.unusedVariables false
variable {E : Env} (hS : HasS E)
include hS in
theorem fullRune_spec (bs : List UInt8) (H : Hp) (hT : TabOK H) (ob : Option Addr) (cap : Nat) (hsl : SlE H 1 ob (u8s bs)) (hlen : bs.length ≤ 1000000) : Sc E 93 [.slice ob bs.length cap] H [] fun v _ => ∃ p, v = .bool p := by
  refine sc_body hS.h93 rfl ?_
  show Ss E _ _ _ c93.body _ _ _
  unfold c93
  refine s_seq ?_
  refine s_ops ?_
  refine o_mov rfl rfl ?_
  refine o_nil ?_
  refine sSeq_normal ?_
  refine s_seq ?_
  refine s_ops ?_
  refine o_mov rfl rfl ?_
  refine o_lnl rfl rfl ?_
  refine o_mov rfl rfl ?_
  refine o_nil ?_
  refine sSeq_normal ?_
  refine s_seq ?_
  refine s_seq ?_
  refine s_ops ?_
  refine o_mov rfl rfl ?_
  refine o_bin rfl rfl rfl rfl ?_
  refine o_nil ?_
  refine sSeq_normal ?_
  refine s_cond rfl (fun hc0 => ?_) (fun hc0 => ?_)
  · skip
    refine s_seq ?_
    refine s_ops ?_
    refine o_mov rfl rfl ?_
    refine o_nil ?_
    refine sSeq_normal ?_
    refine s_ret ?_
    refine sSeq_ret ?_
    refine sRet_ret [_] ⟨rfl, trivial⟩ ?_
    exact ⟨_, rfl⟩
  · have h0 : 0 < bs.length := by
      rcases Nat.eq_zero_or_pos bs.length with h | h
      · rw [h] at hc0; cases hc0
      · exact h
    obtain ⟨b0, hb0, g0a, g0b, g0c⟩ := sl_u8 hsl (i := 0) (by omega)
    obtain ⟨f, hf1, hf2, hf3⟩ := first_at b0 hb0
    have hcf := hT.first hf1
    obtain ⟨lo, hi, hacc⟩ := hT.acc (q := f / 16) (by omega)
    refine s_skip ?_
    refine sSeq_normal ?_
    refine s_seq ?_
    refine s_ops ?_
    refine o_mov rfl rfl ?_
    refine o_iad (i := 0) rfl rfl h0 g0a rfl ?_
    refine o_ld1_old rfl g0b (by simp) g0c rfl ?_
    refine o_iaa rfl rfl (by omega) (by omega) rfl ?_
    refine o_ld1_old rfl (by have := hT.sz; show 0 < H.size; omega) (by simp) hcf rfl ?_
    refine o_mov rfl rfl ?_
    refine o_nil ?_
    refine sSeq_normal ?_
    refine s_seq ?_
    refine s_seq ?_
    refine s_ops ?_
    refine o_mov rfl rfl ?_
    refine o_mov rfl rfl ?_
    refine o_bin rfl rfl (binAnd7 hf2) rfl ?_
    refine o_cvi rfl rfl ?_
    rw [wrap64 (z := ((f % 8 : Nat) : Int)) (by omega) (by omega)]
    refine o_bin rfl rfl rfl rfl ?_
    refine o_nil ?_
    refine sSeq_normal ?_
    refine s_cond rfl (fun hc1 => ?_) (fun hc1 => ?_)
    · skip
      refine s_seq ?_
      refine s_ops ?_
      refine o_mov rfl rfl ?_
      refine o_nil ?_
      refine sSeq_normal ?_
      refine s_ret ?_
      refine sSeq_ret ?_
      refine sRet_ret [_] ⟨rfl, trivial⟩ ?_
      exact ⟨_, rfl⟩
    · skip
      refine s_skip ?_
      refine sSeq_normal ?_
      refine s_seq ?_
      refine s_ops ?_
      refine o_mov rfl rfl ?_
      refine o_bin rfl rfl binShr4 rfl ?_
      refine o_iaa rfl rfl (by omega) (by omega) rfl ?_
      refine o_ld_old rfl (by show 1 < H.size; exact hT.sz) (by simp) hacc rfl ?_
      refine o_newz rfl (fun b23 => ?_)
      refine o_stN (M1 := []) (cn := [U8 lo, U8 hi]) rfl rfl rfl rfl (by show 0 + 2 ≤ 2; exact Nat.le_refl _) rfl rfl ?_
      obtain ⟨x1, hx1⟩ : ∃ x1 : Int, 1 < bs.length → (adr ob 1 1).block < H.size ∧ ob.isSome = true ∧ H.cell? (adr ob 1 1) = some (U8 x1) := by
        by_cases h : 1 < bs.length
        · obtain ⟨b1, _, a1, a2, a3⟩ := sl_u8 hsl h
          exact ⟨b1, fun _ => ⟨a2, a1, a3⟩⟩
        · exact ⟨0, fun h' => absurd h' h⟩
      obtain ⟨x2, hx2⟩ : ∃ x2 : Int, 2 < bs.length → (adr ob 1 2).block < H.size ∧ ob.isSome = true ∧ H.cell? (adr ob 1 2) = some (U8 x2) := by
        by_cases h : 2 < bs.length
        · obtain ⟨b1, _, a1, a2, a3⟩ := sl_u8 hsl h
          exact ⟨b1, fun _ => ⟨a2, a1, a3⟩⟩
        · exact ⟨0, fun h' => absurd h' h⟩
      refine o_nil ?_
      refine sSeq_normal ?_
      refine s_seq ?_
      refine s_seq ?_
      refine s_draw [false, false, false, true, true, true, true, true, false, false, true, true, true, true, true, false, false, false] rfl ?_
      refine o_mov rfl rfl ?_
      refine o_bin rfl rfl rfl rfl ?_
      refine o_mov rfl rfl ?_
      refine g_mov (by first | exact wanted_b rfl | exact wanted_g rfl) (by first | exact evG rfl | exact evG2 rfl | exact evG3 rfl | exact fun _ => rfl) rfl ?_
      refine g_iad (i := 1) (by first | exact wanted_b rfl | exact wanted_g rfl) (by first | exact evG rfl | exact evG2 rfl | exact evG3 rfl | exact fun _ => rfl) (by first | exact evG rfl | exact evG2 rfl | exact evG3 rfl | exact fun _ => rfl) (fun hw => by simp at hw; omega) (fun hw => (hx1 (by simp at hw; omega)).2.1) rfl ?_
      refine g_ldOldW (a := adr ob 1 1) (v := U8 x1) (by first | exact wanted_b rfl | exact wanted_g rfl) (by first | exact evG rfl | exact evG2 rfl | exact evG3 rfl | exact fun _ => rfl) (fun hw => ⟨(hx1 (by simp at hw; omega)).1, by simp, (hx1 (by simp at hw; omega)).2.2⟩) rfl ?_
      refine g_fad (by first | exact wanted_b rfl | exact wanted_g rfl) (by first | exact evG rfl | exact evG2 rfl | exact evG3 rfl | exact fun _ => rfl) rfl ?_
      refine g_ld1 (by first | exact wanted_b rfl | exact wanted_g rfl) (by first | exact evG rfl | exact evG2 rfl | exact evG3 rfl | exact fun _ => rfl) (by first | exact .head _ | exact .tail _ (.head _) | exact .tail _ (.tail _ (.head _)) | exact .tail _ (.tail _ (.tail _ (.head _))) | exact .tail _ (.tail _ (.tail _ (.tail _ (.head _))))) rfl rfl ?_
      refine g_bin (by first | exact wanted_b rfl | exact wanted_g rfl) (by first | exact evG rfl | exact evG2 rfl | exact evG3 rfl | exact fun _ => rfl) (by first | exact evG rfl | exact evG2 rfl | exact evG3 rfl | exact fun _ => rfl) (fun _ => rfl) rfl ?_
      refine g_mov (by first | exact wanted_b rfl | exact wanted_g rfl) (by first | exact evG rfl | exact evG2 rfl | exact evG3 rfl | exact fun _ => rfl) rfl ?_
      refine g_fad (by first | exact wanted_b rfl | exact wanted_g rfl) (by first | exact evG rfl | exact evG2 rfl | exact evG3 rfl | exact fun _ => rfl) rfl ?_
      refine g_ld1 (by first | exact wanted_b rfl | exact wanted_g rfl) (by first | exact evG rfl | exact evG2 rfl | exact evG3 rfl | exact fun _ => rfl) (by first | exact .head _ | exact .tail _ (.head _) | exact .tail _ (.tail _ (.head _)) | exact .tail _ (.tail _ (.tail _ (.head _))) | exact .tail _ (.tail _ (.tail _ (.tail _ (.head _))))) rfl rfl ?_
      refine g_mov (by first | exact wanted_b rfl | exact wanted_g rfl) (by first | exact evG rfl | exact evG2 rfl | exact evG3 rfl | exact fun _ => rfl) rfl ?_
      refine g_iad (i := 1) (by first | exact wanted_b rfl | exact wanted_g rfl) (by first | exact evG rfl | exact evG2 rfl | exact evG3 rfl | exact fun _ => rfl) (by first | exact evG rfl | exact evG2 rfl | exact evG3 rfl | exact fun _ => rfl) (fun hw => by simp at hw; omega) (fun hw => (hx1 (by simp at hw; omega)).2.1) rfl ?_
      refine g_ldOldW (a := adr ob 1 1) (v := U8 x1) (by first | exact wanted_b rfl | exact wanted_g rfl) (by first | exact evG rfl | exact evG2 rfl | exact evG3 rfl | exact fun _ => rfl) (fun hw => ⟨(hx1 (by simp at hw; omega)).1, by simp, (hx1 (by simp at hw; omega)).2.2⟩) rfl ?_
      refine g_bin (by first | exact wanted_b rfl | exact wanted_g rfl) (by first | exact evG rfl | exact evG2 rfl | exact evG3 rfl | exact fun _ => rfl) (by first | exact evG rfl | exact evG2 rfl | exact evG3 rfl | exact fun _ => rfl) (fun _ => rfl) rfl ?_
      refine g_pick (by first | exact wanted_b rfl | exact wanted_g rfl) (by first | exact evG rfl | exact evG2 rfl | exact evG3 rfl | exact fun _ => rfl) (by first | exact fun hw h => evG rfl (by rw [hw, h]; rfl) | exact fun _ _ => rfl | exact fun hw _ => evG rfl hw) (by first | exact fun hw h => evG rfl (by rw [hw, h]; rfl) | exact fun _ _ => rfl | exact fun hw _ => evG rfl hw) rfl ?_
      refine o_pickB rfl (by first | exact fun h => evG rfl (by rw [h]; rfl) | exact fun _ => rfl) (by first | exact fun h => evG rfl (by rw [h]; rfl) | exact fun _ => rfl) rfl ?_
      refine o_nil ?_
      refine sSeq_normal ?_
      refine s_cond rfl (fun hc2 => ?_) (fun hc2 => ?_)
      · skip
        refine s_seq ?_
        refine s_ops ?_
        refine o_mov rfl rfl ?_
        refine o_nil ?_
        refine sSeq_normal ?_
        refine s_ret ?_
        refine sSeq_ret ?_
        refine sRet_ret [_] ⟨rfl, trivial⟩ ?_
        exact ⟨_, rfl⟩
      · skip
        refine s_seq ?_
        refine s_ops ?_
        refine o_mov rfl rfl ?_
        refine o_bin rfl rfl rfl rfl ?_
        refine o_mov rfl rfl ?_
        refine g_mov (by first | exact wanted_b rfl | exact wanted_g rfl) (by first | exact evG rfl | exact evG2 rfl | exact evG3 rfl | exact fun _ => rfl) rfl ?_
        refine g_iad (i := 2) (by first | exact wanted_b rfl | exact wanted_g rfl) (by first | exact evG rfl | exact evG2 rfl | exact evG3 rfl | exact fun _ => rfl) (by first | exact evG rfl | exact evG2 rfl | exact evG3 rfl | exact fun _ => rfl) (fun hw => by simp at hw; omega) (fun hw => (hx2 (by simp at hw; omega)).2.1) rfl ?_
        refine g_ldOldW (a := adr ob 1 2) (v := U8 x2) (by first | exact wanted_b rfl | exact wanted_g rfl) (by first | exact evG rfl | exact evG2 rfl | exact evG3 rfl | exact fun _ => rfl) (fun hw => ⟨(hx2 (by simp at hw; omega)).1, by simp, (hx2 (by simp at hw; omega)).2.2⟩) rfl ?_
        refine g_bin (by first | exact wanted_b rfl | exact wanted_g rfl) (by first | exact evG rfl | exact evG2 rfl | exact evG3 rfl | exact fun _ => rfl) (by first | exact evG rfl | exact evG2 rfl | exact evG3 rfl | exact fun _ => rfl) (fun _ => rfl) rfl ?_
        refine g_mov (by first | exact wanted_b rfl | exact wanted_g rfl) (by first | exact evG rfl | exact evG2 rfl | exact evG3 rfl | exact fun _ => rfl) rfl ?_
        refine g_mov (by first | exact wanted_b rfl | exact wanted_g rfl) (by first | exact evG rfl | exact evG2 rfl | exact evG3 rfl | exact fun _ => rfl) rfl ?_
        refine g_iad (i := 2) (by first | exact wanted_b rfl | exact wanted_g rfl) (by first | exact evG rfl | exact evG2 rfl | exact evG3 rfl | exact fun _ => rfl) (by first | exact evG rfl | exact evG2 rfl | exact evG3 rfl | exact fun _ => rfl) (fun hw => by simp at hw; omega) (fun hw => (hx2 (by simp at hw; omega)).2.1) rfl ?_
        refine g_ldOldW (a := adr ob 1 2) (v := U8 x2) (by first | exact wanted_b rfl | exact wanted_g rfl) (by first | exact evG rfl | exact evG2 rfl | exact evG3 rfl | exact fun _ => rfl) (fun hw => ⟨(hx2 (by simp at hw; omega)).1, by simp, (hx2 (by simp at hw; omega)).2.2⟩) rfl ?_
        refine g_bin (by first | exact wanted_b rfl | exact wanted_g rfl) (by first | exact evG rfl | exact evG2 rfl | exact evG3 rfl | exact fun _ => rfl) (by first | exact evG rfl | exact evG2 rfl | exact evG3 rfl | exact fun _ => rfl) (fun _ => rfl) rfl ?_
        refine g_pick (by first | exact wanted_b rfl | exact wanted_g rfl) (by first | exact evG rfl | exact evG2 rfl | exact evG3 rfl | exact fun _ => rfl) (by first | exact fun hw h => evG rfl (by rw [hw, h]; rfl) | exact fun _ _ => rfl | exact fun hw _ => evG rfl hw) (by first | exact fun hw h => evG rfl (by rw [hw, h]; rfl) | exact fun _ _ => rfl | exact fun hw _ => evG rfl hw) rfl ?_
        refine o_pickB rfl (by first | exact fun h => evG rfl (by rw [h]; rfl) | exact fun _ => rfl) (by first | exact fun h => evG rfl (by rw [h]; rfl) | exact fun _ => rfl) rfl ?_
        refine o_nil ?_
        refine sSeq_normal ?_
        refine s_cond rfl (fun hc3 => ?_) (fun hc3 => ?_)
        · skip
          refine s_seq ?_
          refine s_ops ?_
          refine o_mov rfl rfl ?_
          refine o_nil ?_
          refine sSeq_normal ?_
          refine s_ret ?_
          refine sSeq_ret ?_
          refine sRet_ret [_] ⟨rfl, trivial⟩ ?_
          exact ⟨_, rfl⟩
        · skip
          refine s_skip ?_
          refine sSeq_normal ?_
          refine s_seq ?_
          refine s_ops ?_
          refine o_mov rfl rfl ?_
          refine o_nil ?_
          refine sSeq_normal ?_
          refine s_ret ?_
          refine sRet_ret [_] ⟨rfl, trivial⟩ ?_
          exact ⟨_, rfl⟩

end Go.Proofs.YtfonnebpnobomaaDoor.W
namespace Go.Proofs.YtfonnebpnobomaaDoor.W
open Go Am code
set_option maxRecDepth 100000
set_option maxHeartbeats 4000000
set_option linter.unusedSimpArgs false
set_option linter.unusedVariables false
variable {E : Env} (hS : HasS E)

theorem sub_u8 {H : Hp} {a : Addr} {bs : List UInt8} {k cap : Nat} (h : SlE H 1 (some a) (u8s bs)) (hk : k ≤ bs.length) (hc : bs.length ≤ cap) : SlE H 1 (some (subAdr a k cap 1)) (u8s (bs.drop k)) := by
  have h1 := h.sub (l := k) (m := bs.length) (cap := cap) hk (by rw [u8s_len]; exact Nat.le_refl _) (by rw [u8s_len]; exact hc)
  have he : ((u8s bs).drop k).take (bs.length - k) = u8s (bs.drop k) := by
    unfold u8s
    rw [← List.map_drop, List.take_of_length_le (by rw [List.length_map, List.length_drop]; exact Nat.le_refl _)]
  rw [he] at h1
  exact h1

include hS in
theorem decode_spec (bs : List UInt8) (i : Int) (H : Hp) (hT : TabOK H) (ob : Option Addr) (cap : Nat) (hcap : bs.length ≤ cap) (hsl : SlE H 1 ob (u8s bs)) (hlen : bs.length ≤ 1000000) : Sc E 85 [.slice ob bs.length cap, I64 i] H [] fun v _ => ∃ r w e, v = .tuple ⟨[I32 r, I64 w, I64 e]⟩ ∧ (e = 0 → 0 ≤ i ∧ 1 ≤ w ∧ i + w ≤ bs.length) := by
  refine sc_body hS.h85 rfl ?_
  show Ss E _ _ _ c85.body _ _ _
  unfold c85
  refine s_seq ?_
  refine s_ops ?_
  refine o_mov rfl rfl ?_
  refine o_mov rfl rfl ?_
  refine o_mov rfl rfl ?_
  refine o_nil ?_
  refine sSeq_normal ?_
  refine s_seq ?_
  refine s_seq ?_
  refine s_ops ?_
  refine o_mov rfl rfl ?_
  refine o_bin rfl rfl rfl rfl ?_
  refine o_mov rfl rfl ?_
  refine g_mov (by first | exact wanted_b rfl | exact wanted_g rfl) (by first | exact evG rfl | exact evG2 rfl | exact evG3 rfl | exact fun _ => rfl) rfl ?_
  refine g_mov (by first | exact wanted_b rfl | exact wanted_g rfl) (by first | exact evG rfl | exact evG2 rfl | exact evG3 rfl | exact fun _ => rfl) rfl ?_
  refine g_lnl (by first | exact wanted_b rfl | exact wanted_g rfl) (by first | exact evG rfl | exact evG2 rfl | exact evG3 rfl | exact fun _ => rfl) rfl ?_
  refine g_bin (by first | exact wanted_b rfl | exact wanted_g rfl) (by first | exact evG rfl | exact evG2 rfl | exact evG3 rfl | exact fun _ => rfl) (by first | exact evG rfl | exact evG2 rfl | exact evG3 rfl | exact fun _ => rfl) (fun _ => rfl) rfl ?_
  refine o_pickB rfl (by first | exact fun h => evG rfl (by rw [h]; rfl) | exact fun _ => rfl) (by first | exact fun h => evG rfl (by rw [h]; rfl) | exact fun _ => rfl) rfl ?_
  refine o_nil ?_
  refine sSeq_normal ?_
  refine s_cond rfl (fun hc0 => ?_) (fun hc0 => ?_)
  · skip
    refine s_seq ?_
    refine s_ops ?_
    refine o_mov rfl rfl ?_
    refine o_mov rfl rfl ?_
    refine o_mov rfl rfl ?_
    refine o_nil ?_
    refine sSeq_normal ?_
    refine s_ret ?_
    refine sSeq_ret ?_
    refine sRet_ret [_, _, _] ⟨rfl, rfl, rfl, trivial⟩ ?_
    exact ⟨_, _, _, rfl, fun h => (by first | omega | cases h)⟩
  · have hi : 0 ≤ i ∧ i < bs.length := by
      by_cases h1 : i < 0
      · simp [h1] at hc0
      · have h2 : decide (i < 0) = false := by simpa using h1
        rw [h2] at hc0
        simp [gv] at hc0
        omega
    obtain ⟨k, rfl⟩ := Int.eq_ofNat_of_zero_le hi.1
    have hk : k < bs.length := by omega
    obtain ⟨_, _, hob, _, _⟩ := sl_u8 hsl hk
    obtain ⟨a0, rfl⟩ := Option.isSome_iff_exists.1 hob
    have hsub := sub_u8 (k := k) (cap := cap) hsl (by omega) hcap
    have hdl : bs.length - k = (bs.drop k).length := by rw [List.length_drop]
    refine s_skip ?_
    refine sSeq_normal ?_
    refine s_seq ?_
    refine s_ops ?_
    refine o_mov rfl rfl ?_
    refine o_mov rfl rfl ?_
    refine o_slFrom rfl rfl (by omega) hcap rfl ?_
    rw [hdl]
    refine o_callE rfl (ha1 rfl) rfl (fun H1 hH1 => decodeRune_spec hS (bs.drop k) H1 (hT.mono hH1) _ (cap - k) (hsub.mono hH1 (fun _ _ => by simp)) (by rw [List.length_drop]; omega)) ?_
    rintro v ⟨r, w, rfl, hw⟩
    have hw2 := hw (by rw [List.length_drop]; omega)
    rw [List.length_drop] at hw2
    refine o_mov rfl rfl ?_
    refine o_ext rfl rfl rfl ?_
    refine o_ext rfl rfl rfl ?_
    refine o_mov rfl rfl ?_
    refine o_mov rfl rfl ?_
    refine o_nil ?_
    refine sSeq_normal ?_
    refine s_seq ?_
    refine s_block ?_
    refine s_seq ?_
    refine s_ops ?_
    refine o_mov rfl rfl ?_
    refine o_bin rfl rfl rfl rfl ?_
    refine o_mov rfl rfl ?_
    refine g_mov (by first | exact wanted_b rfl | exact wanted_g rfl) (by first | exact evG rfl | exact evG2 rfl | exact evG3 rfl | exact fun _ => rfl) rfl ?_
    refine g_bin (by first | exact wanted_b rfl | exact wanted_g rfl) (by first | exact evG rfl | exact evG2 rfl | exact evG3 rfl | exact fun _ => rfl) (by first | exact evG rfl | exact evG2 rfl | exact evG3 rfl | exact fun _ => rfl) (fun _ => rfl) rfl ?_
    refine o_pickB rfl (by first | exact fun h => evG rfl (by rw [h]; rfl) | exact fun _ => rfl) (by first | exact fun h => evG rfl (by rw [h]; rfl) | exact fun _ => rfl) rfl ?_
    refine o_mov rfl rfl ?_
    refine o_nil ?_
    refine sSeq_normal ?_
    refine s_cond rfl (fun hc1 => ?_) (fun hc1 => ?_)
    · skip
      refine s_seq ?_
      refine s_ops ?_
      refine o_mov rfl rfl ?_
      refine o_mov rfl rfl ?_
      refine o_mov rfl rfl ?_
      refine o_mov rfl rfl ?_
      refine o_mov rfl rfl ?_
      refine o_nil ?_
      refine sSeq_normal ?_
      refine s_ret ?_
      refine sBlock_ret ?_
      refine sSeq_ret ?_
      refine sRet_ret [_, _, _] ⟨rfl, rfl, rfl, trivial⟩ ?_
      exact ⟨_, _, _, rfl, fun h => (by first | omega | cases h)⟩
    · skip
      refine s_seq ?_
      refine s_ops ?_
      refine o_mov rfl rfl ?_
      refine o_mov rfl rfl ?_
      refine o_slFrom rfl rfl (by omega) hcap rfl ?_
      rw [hdl]
      refine o_callE rfl (ha1 rfl) rfl (fun H1 hH1 => fullRune_spec hS (bs.drop k) H1 (hT.mono hH1) _ (cap - k) (hsub.mono hH1 (fun _ _ => by simp)) (by rw [List.length_drop]; omega)) ?_
      rintro v ⟨pf, rfl⟩
      refine o_un rfl rfl rfl ?_
      refine o_mov rfl rfl ?_
      refine o_nil ?_
      refine sSeq_normal ?_
      refine s_cond rfl (fun hc2 => ?_) (fun hc2 => ?_)
      · skip
        refine s_seq ?_
        refine s_ops ?_
        refine o_mov rfl rfl ?_
        refine o_mov rfl rfl ?_
        refine o_mov rfl rfl ?_
        refine o_nil ?_
        refine sSeq_normal ?_
        refine s_ret ?_
        refine sBlock_ret ?_
        refine sSeq_ret ?_
        refine sRet_ret [_, _, _] ⟨rfl, rfl, rfl, trivial⟩ ?_
        exact ⟨_, _, _, rfl, fun h => (by first | omega | cases h)⟩
      · skip
        refine s_skip ?_
        refine sBlock_normal ?_
        refine sSeq_normal ?_
        refine s_seq ?_
        refine s_ops ?_
        refine o_mov rfl rfl ?_
        refine o_mov rfl rfl ?_
        refine o_mov rfl rfl ?_
        refine o_nil ?_
        refine sSeq_normal ?_
        refine s_ret ?_
        refine sRet_ret [_, _, _] ⟨rfl, rfl, rfl, trivial⟩ ?_
        exact ⟨_, _, _, rfl, fun h => (by first | omega | cases h)⟩

include hS in
theorem all_spec (sv : Value) (hsv : sv.cells.toList = [sv]) (H : Hp) : Sc E 75 [sv] H [] fun v M => ∃ b, v = .func (.func 86) #[] ⟨[.pointer (some ⟨b, 0, none⟩)]⟩ ∧ (b, Blk.row [sv] true) ∈ M := by
  refine sc_body hS.h75 rfl ?_
  show Ss E _ _ _ c75.body _ _ _
  unfold c75
  refine s_seq ?_
  refine s_ops ?_
  refine o_box (c := [sv]) rfl hsv rfl (fun b0 => ?_)
  refine o_mov rfl rfl ?_
  refine o_nil ?_
  refine sSeq_normal ?_
  refine s_seq ?_
  refine s_ops ?_
  refine o_fn (c := [.pointer (some ⟨b0, 0, none⟩)]) ha0 (ha1 rfl) rfl ?_
  refine o_mov rfl rfl ?_
  refine o_nil ?_
  refine sSeq_normal ?_
  refine s_ret ?_
  refine sRet_ret [_] ⟨rfl, trivial⟩ ?_
  exact ⟨b0, rfl, .head _⟩

end Go.Proofs.YtfonnebpnobomaaDoor.W
namespace Go.Proofs.YtfonnebpnobomaaDoor.W
open Go Am code
set_option maxRecDepth 100000
set_option maxHeartbeats 4000000
set_option linter.unusedSimpArgs false
set_option linter.unusedVariables false
variable {E : Env} (hS : HasS E)
include hS in
theorem all1_spec (bs : List UInt8) (l bp : Nat) (H : Hp) (S : List Nat) (hT : TabOK H) (h0 : 0 ∉ S) (h1 : 1 ∉ S) (ob : Option Addr) (cap : Nat) (hcap : bs.length ≤ cap) (hsl : SlE H 1 ob (u8s bs)) (hob : ∀ a, ob = some a → a.block ∉ S) (hlen : bs.length ≤ 1000000)
    (hbp : bp < H.size) (hbS : bp ∉ S) (hb : ∃ o, H.get bp = .row [.slice ob bs.length cap] o) (J : Nat → Ms → Prop) (hy : YieldOK E l H S bs.length (fun args => ∃ i r, args = [I64 i, I32 r]) J) (M0 : Ms) (hJ0 : J 0 M0) (hM0 : ∀ b x, (b, x) ∈ M0 → H.get b = x ∧ b < H.size ∧ b ∈ S) (hN0 : (M0.map Prod.fst).Nodup) :
    Sc E 86 [yieldV l, .pointer (some ⟨bp, 0, none⟩)] H S fun v M => ∃ k, J k M := by
  obtain ⟨o, hbo⟩ := hb
  have hbc : H.cell? ⟨bp, 0, none⟩ = some (.slice ob bs.length cap) := Am.cell_of_row hbo rfl
  refine sc_bodyM hM0 hN0 hS.h86 rfl ?_
  show Ss E _ _ _ c86.body _ _ _
  unfold c86
  refine s_seq ?_
  refine s_ops ?_
  refine o_mov rfl rfl ?_
  refine o_nil ?_
  refine sSeq_normal ?_
  refine s_block ?_
  refine s_iter (α := Nat × Nat × Ms) (fun z => bs.length - z.1) (fun z => [(0, yieldV l), (1, .pointer (some ⟨bp, 0, none⟩)), (3, I64 (z.1 : Nat))]) (fun z => z.2.2) (fun z => z.2.1 ≤ z.1 ∧ z.1 ≤ bs.length ∧ J z.2.1 z.2.2) (0, 0, M0) (subCons rfl (subCons rfl (subCons rfl subNil))) (.refl _) ⟨Nat.le_refl _, Nat.zero_le _, hJ0⟩ ?_
  rintro ⟨i, k, M⟩ ⟨hk, hi, hJ⟩
  dsimp only at hk hi hJ ⊢
  refine s_seq ?_
  refine s_seq ?_
  refine s_ops ?_
  refine o_mov rfl rfl ?_
  refine o_ld1_old rfl hbp hbS hbc rfl ?_
  refine o_lnl rfl rfl ?_
  refine o_bin rfl rfl rfl rfl ?_
  refine o_nil ?_
  refine sSeq_normal ?_
  refine s_cond rfl (fun hc0 => ?_) (fun hc0 => ?_)
  · have hi2 : i < bs.length := by simp at hc0; omega
    refine s_skip ?_
    refine sSeq_normal ?_
    refine s_block ?_
    refine s_seq ?_
    refine s_ops ?_
    refine o_ld1_old rfl hbp hbS hbc rfl ?_
    refine o_mov rfl rfl ?_
    refine o_callE rfl (ha2 rfl rfl) rfl (fun H1 hH1 => decode_spec hS bs i H1 ⟨by rw [hH1.old 0 (by have := hT.sz; omega) h0]; exact hT.t0, by rw [hH1.old 1 hT.sz h1]; exact hT.t1, Nat.lt_of_lt_of_le hT.sz hH1.size⟩ ob cap hcap (hsl.mono hH1 hob) hlen) ?_
    rintro v ⟨r, w, e, rfl, he⟩
    refine o_mov rfl rfl ?_
    refine o_ext rfl rfl rfl ?_
    refine o_ext rfl rfl rfl ?_
    refine o_ext rfl rfl rfl ?_
    refine o_mov rfl rfl ?_
    refine o_mov rfl rfl ?_
    refine o_mov rfl rfl ?_
    refine o_nil ?_
    refine sSeq_normal ?_
    refine s_seq ?_
    refine s_seq ?_
    refine s_ops ?_
    refine o_mov rfl rfl ?_
    refine o_bin rfl rfl rfl rfl ?_
    refine o_mov rfl rfl ?_
    refine g_mov (by first | exact wanted_b rfl | exact wanted_g rfl) (by first | exact evG rfl | exact evG2 rfl | exact evG3 rfl | exact fun _ => rfl) rfl ?_
    refine g_mov (by first | exact wanted_b rfl | exact wanted_g rfl) (by first | exact evG rfl | exact evG2 rfl | exact evG3 rfl | exact fun _ => rfl) rfl ?_
    refine g_mov (by first | exact wanted_b rfl | exact wanted_g rfl) (by first | exact evG rfl | exact evG2 rfl | exact evG3 rfl | exact fun _ => rfl) rfl ?_
    refine g_yield (args := [I64 (i : Nat), I32 r]) (by first | exact wanted_b rfl | exact wanted_g rfl) (fun hw => evG rfl hw) (fun hw => ha2 (evG rfl hw) (evG rfl hw)) rfl hy (fun _ => by omega) (fun _ => ⟨_, _, rfl⟩) hJ (fun M1 k1 hk1 hJ1 => ?_)
    refine g_not (by first | exact wanted_b rfl | exact wanted_g rfl) (by first | exact evG rfl | exact evG2 rfl | exact evG3 rfl | exact fun _ => rfl) rfl ?_
    refine o_pickB rfl (by first | exact fun h => evG rfl (by rw [h]; rfl) | exact fun _ => rfl) (by first | exact fun h => evG rfl (by rw [h]; rfl) | exact fun _ => rfl) rfl ?_
    refine o_nil ?_
    refine sSeq_normal ?_
    refine s_cond rfl (fun hc1 => ?_) (fun hc1 => ?_)
    · skip
      refine s_ret ?_
      refine sSeq_ret ?_
      refine sBlock_ret ?_
      refine sIter_ret ?_
      refine sBlock_ret ?_
      first | refine sRet_ret [] trivial ?_ | refine sRet_normal [] trivial ?_
      first | exact ⟨_, hJ1⟩ | exact ⟨_, hJ⟩
    · have hee : e = 0 := by
        by_cases h : e = 0
        · exact h
        · have h2 : (e != 0) = true := by simpa using h
          rw [h2] at hc1; cases hc1
      have hw := he hee
      obtain ⟨wn, rfl⟩ := Int.eq_ofNat_of_zero_le (show 0 ≤ w by omega)
      refine s_skip ?_
      refine sSeq_normal ?_
      refine s_ops ?_
      refine o_mov rfl rfl ?_
      refine o_mov rfl rfl ?_
      refine o_bin (v := I64 (i + wn : Nat)) rfl rfl (by simp only [binV, binInt, if_true]; rw [wrap64 (by omega) (by omega)]; rfl) rfl ?_
      refine o_mov rfl rfl ?_
      refine o_nil ?_
      refine sBlock_normal ?_
      exact sIter_next (i + wn, k1, M1) (by omega) (subCons rfl (subCons rfl (subCons rfl subNil))) (.refl _) ⟨by dsimp only; omega, by dsimp only; omega, hJ1⟩
  · skip
    refine s_exit ?_
    refine sSeq_exit ?_
    refine sIter_exit ?_
    refine sBlock_exit ?_
    first | refine sRet_ret [] trivial ?_ | refine sRet_normal [] trivial ?_
    first | exact ⟨_, hJ1⟩ | exact ⟨_, hJ⟩

end Go.Proofs.YtfonnebpnobomaaDoor.W
namespace Go.Proofs.YtfonnebpnobomaaDoor.W
open Go Am code
set_option maxRecDepth 100000
set_option maxHeartbeats 4000000
set_option linter.unusedSimpArgs false
set_option linter.unusedVariables false
variable {E : Env} (hS : HasS E)

theorem own_lt {H0 H : Hp} {M : Ms} {b : Nat} {y : Blk} (h : St H0 [] H M) (hm : (b, y) ∈ M) : H0.size ≤ b ∧ b < H.size ∧ H.get b = y := by
  obtain ⟨h1, h2, h3⟩ := h.here _ _ hm
  simp at h3
  exact ⟨h3, h2, h1⟩
theorem sl_lt {H : Hp} {ob : Option Addr} {bs : List UInt8} (h : SlE H 1 ob (u8s bs)) (h0 : 0 < bs.length) : ∀ a, ob = some a → a.block < H.size := by
  intro a ha
  obtain ⟨a', e, h1, _⟩ := h.all (fun e => by have := congrArg List.length e; rw [u8s_len] at this; have : bs.length = 0 := this; omega)
  rw [ha] at e; cases e; exact h1
include hS in
theorem rcheck_spec (bs : List UInt8) (h0 : 0 < bs.length) (H : Hp) (hT : TabOK H) (ob : Option Addr) (cap : Nat) (hcap : bs.length ≤ cap) (hsl : SlE H 1 ob (u8s bs)) (hlen : bs.length ≤ 1000000) : Sc E 74 [.slice ob bs.length cap] H [] fun v _ => ∃ a e, v = .tuple ⟨[I64 a, I64 e]⟩ := by
  refine sc_bodyX hS.h74 rfl ?_
  show Sm E _ _ _ c74.body _ _ _ _
  unfold c74
  refine sm_seq (sm_of rfl (s_ops ?_))
  refine o_newz rfl (fun c => ?_)
  refine o_mov rfl rfl ?_
  refine o_nil (smSeq_normal ?_)
  refine sm_seq (sm_of rfl (s_seq (s_ops ?_)))
  refine o_mov rfl rfl ?_
  refine o_lnl rfl rfl ?_
  refine o_bin rfl rfl rfl rfl ?_
  refine o_nil (sSeq_normal ?_)
  refine s_cond rfl (fun hc => ?_) (fun hc => ?_)
  · refine s_seq (s_ops ?_)
    refine o_stN (M1 := []) (cn := [I64 0]) rfl rfl rfl rfl (by show 0 + 1 ≤ 1; exact Nat.le_refl _) rfl rfl ?_
    refine o_mov rfl rfl ?_
    refine o_nil (sSeq_normal (s_ret (smSeq_ret ?_)))
    exact ⟨.inr rfl, .inl ⟨rfl, [_, _], ⟨⟨c, _, _, rfl, .head _, rfl⟩, rfl, trivial⟩, _, _, rfl⟩⟩
  refine s_skip (smSeq_normal ?_)
  refine sm_seq (sm_seq (sm_of rfl (s_ops ?_)))
  refine o_mov rfl rfl ?_
  refine o_call1 rfl (ha1 rfl) rfl (fun H1 _ => (all_spec hS (.slice ob bs.length cap) rfl H1).mono ?_)
  rintro v M1 ⟨bp, rfl, hbpM⟩
  refine o_nil (smSeq_normal ?_)
  refine sm_range (g := 86) (cap := [.pointer (some ⟨bp, 0, none⟩)]) rfl (by rw [hS.h86]; rfl) (fun F H1 m hF hH hm hme => ?_)
  obtain ⟨c1, c2, c3⟩ := own_lt hH (b := c) (y := .row [I64 0] true) (List.mem_append_right _ (.head _))
  obtain ⟨p1, p2, p3⟩ := own_lt hH (b := bp) (List.mem_append_left _ hbpM)
  have hpc : bp ≠ c := by
    rintro rfl
    rw [c3] at p3; cases p3
  have hSt := ((St.refl H1 []).new .deferred).new (.loop .ready none (F.wm [] false) [11, 12] (.seq (.ops [⟨(some 4), none, .mov (.tmp 11)⟩]) (.ops [⟨(some 5), none, .mov (.tmp 12)⟩])) (.block 1 (.ops [⟨(some 13), none, .mov (.tmp 4)⟩, ⟨(some 14), none, .mov (.tmp 5)⟩, ⟨(some 15), none, .call (.func 84) [(.tmp 14)]⟩, ⟨(some 16), none, .bin .add (.tmp 13) (.tmp 15)⟩, ⟨none, none, .st 1 (.tmp 2) (.tmp 16)⟩])))
  have hT1 := hT.mono (hH.sub (M' := []) (fun _ h => (by cases h)) .nil)
  have hTs := hT.sz
  have hsz := hH.size
  refine ⟨[m + 1, c], [], fun M1 => ∃ k z : Int, M1 = [(m + 1, Blk.loop .ready none (F.wm [] false) [11, 12] (.seq (.ops [⟨(some 4), none, .mov (.tmp 11)⟩]) (.ops [⟨(some 5), none, .mov (.tmp 12)⟩])) (.block 1 (.ops [⟨(some 13), none, .mov (.tmp 4)⟩, ⟨(some 14), none, .mov (.tmp 5)⟩, ⟨(some 15), none, .call (.func 84) [(.tmp 14)]⟩, ⟨(some 16), none, .bin .add (.tmp 13) (.tmp 15)⟩, ⟨none, none, .st 1 (.tmp 2) (.tmp 16)⟩]))), (c, Blk.row [I64 z] true)], fun b hb => ?_, ?_, fun _ h => (by cases h), .nil, (all1_spec hS bs (m + 1) bp _ [m + 1, c] (hT1.mono hSt) ?_ ?_ ob cap hcap ((hsl.mono hH (fun _ _ => by simp)).mono hSt (fun _ _ => by simp)) ?_ hlen ?_ ?_ ⟨true, ?_⟩ (fun k M1 => ∃ z : Int, M1 = [(m + 1, Blk.loop .ready none (F.wm [] false) [11, 12] (.seq (.ops [⟨(some 4), none, .mov (.tmp 11)⟩]) (.ops [⟨(some 5), none, .mov (.tmp 12)⟩])) (.block 1 (.ops [⟨(some 13), none, .mov (.tmp 4)⟩, ⟨(some 14), none, .mov (.tmp 5)⟩, ⟨(some 15), none, .call (.func 84) [(.tmp 14)]⟩, ⟨(some 16), none, .bin .add (.tmp 13) (.tmp 15)⟩, ⟨none, none, .st 1 (.tmp 2) (.tmp 16)⟩]))), (c, Blk.row [I64 z] true)]) ?_ [(m + 1, Blk.loop .ready none (F.wm [] false) [11, 12] (.seq (.ops [⟨(some 4), none, .mov (.tmp 11)⟩]) (.ops [⟨(some 5), none, .mov (.tmp 12)⟩])) (.block 1 (.ops [⟨(some 13), none, .mov (.tmp 4)⟩, ⟨(some 14), none, .mov (.tmp 5)⟩, ⟨(some 15), none, .call (.func 84) [(.tmp 14)]⟩, ⟨(some 16), none, .bin .add (.tmp 13) (.tmp 15)⟩, ⟨none, none, .st 1 (.tmp 2) (.tmp 16)⟩]))), (c, Blk.row [I64 0] true)] ⟨0, rfl⟩ ?_ ?_).mono ?_, ?_⟩
  · simp at hb; rcases hb with rfl | rfl
    · exact .inl rfl
    · exact .inr (.inr c1)
  · simp; omega
  · simp; omega
  · simp; omega
  · intro a ha
    have := sl_lt hsl h0 a ha
    simp; omega
  · rw [Hp.size_new, Hp.size_new]; omega
  · simp; omega
  · rw [Hp.get_new, if_neg (by rw [Hp.size_new]; omega), Hp.get_new, if_neg (by omega)]; exact p3
  · refine yield_ok (n0 := 30) (F0 := F.wm [] false) (ps := [11, 12]) (asg := (.seq (.ops [⟨(some 4), none, .mov (.tmp 11)⟩]) (.ops [⟨(some 5), none, .mov (.tmp 12)⟩]))) (bd := (.block 1 (.ops [⟨(some 13), none, .mov (.tmp 4)⟩, ⟨(some 14), none, .mov (.tmp 5)⟩, ⟨(some 15), none, .call (.func 84) [(.tmp 14)]⟩, ⟨(some 16), none, .bin .add (.tmp 13) (.tmp 15)⟩, ⟨none, none, .st 1 (.tmp 2) (.tmp 16)⟩]))) hF.n rfl rfl ?_
    rintro k args M2 _ ⟨i, r, rfl⟩ ⟨z, rfl⟩
    obtain ⟨F1, e1, e2⟩ := setP2 (a1 := I64 i) (a2 := I32 r) (p1 := 11) (p2 := 12) hF rfl rfl
    refine ⟨[], [(c, .row [I64 z] true)], F1, _, rfl, e1, e2, ?_⟩
    refine s_seq (s_ops ?_)
    refine o_mov rfl rfl ?_
    refine o_nil (sSeq_normal (s_ops ?_))
    refine o_mov rfl rfl ?_
    refine o_nil ⟨rfl, rfl, ?_⟩
    refine s_block (s_ops ?_)
    refine o_mov rfl rfl ?_
    refine o_mov rfl rfl ?_
    refine o_callE rfl (ha1 rfl) rfl (fun H3 _ => runeLen_spec hS r H3) ?_
    rintro v ⟨kk, rfl⟩
    refine o_bin rfl rfl rfl rfl ?_
    refine o_stN (M1 := [_]) (c := [I64 z]) rfl rfl rfl rfl (by show 0 + 1 ≤ 1; exact Nat.le_refl _) rfl rfl ?_
    refine o_nil (sBlock_normal ⟨rfl, [], _, rfl, _, rfl⟩)
  · intro b x hx
    simp at hx
    rcases hx with ⟨rfl, rfl⟩ | ⟨rfl, rfl⟩
    · refine ⟨?_, ?_, by simp⟩
      · rw [Hp.get_new, if_pos (by rw [Hp.size_new, hme])]
      · rw [Hp.size_new, Hp.size_new]; omega
    · refine ⟨?_, ?_, by simp⟩
      · rw [Hp.get_new, if_neg (by rw [Hp.size_new]; omega), Hp.get_new, if_neg (by omega)]; exact c3
      · rw [Hp.size_new, Hp.size_new]; omega
  · simp; omega
  · rintro v M2 ⟨k, z, rfl⟩
    exact ⟨k, z, rfl⟩
  rintro M2 ⟨k, z, rfl⟩
  refine ⟨[], [(c, .row [I64 z] true)], rfl, smSeq_normal ?_⟩
  refine sm_seq (sm_of rfl (s_seq (s_ops ?_)))
  refine o_ld1 rfl (.tail _ (.head _)) rfl rfl ?_
  refine o_mov rfl rfl ?_
  refine o_lnl rfl rfl ?_
  refine o_bin rfl rfl rfl rfl ?_
  refine o_nil (sSeq_normal ?_)
  refine s_cond rfl (fun hc => ?_) (fun hc => ?_)
  · refine s_ops ?_
    refine o_mov rfl rfl ?_
    refine o_ld1 rfl (.tail _ (.head _)) rfl rfl ?_
    refine o_callE rfl (ha2 rfl rfl) rfl (fun H3 hH3 => decode_spec hS bs z H3 (hT.mono (hH3.sub (M' := []) (fun _ h => (by cases h)) .nil)) ob cap hcap (hsl.mono hH3 (fun _ _ => by simp)) hlen) ?_
    rintro v ⟨r, w, e, rfl, _⟩
    refine o_mov rfl rfl ?_
    refine o_ext rfl rfl rfl ?_
    refine o_ext rfl rfl rfl ?_
    refine o_ext rfl rfl rfl ?_
    refine o_mov rfl rfl ?_
    refine o_nil (smSeq_normal ?_)
    refine sm_seq (sm_of rfl (s_ops ?_))
    refine o_ld1 rfl (.tail _ (.head _)) rfl rfl ?_
    refine o_mov rfl rfl ?_
    refine o_stN (M1 := [_]) (c := [I64 z]) (cn := [I64 z]) rfl rfl rfl rfl (by show 0 + 1 ≤ 1; exact Nat.le_refl _) rfl rfl ?_
    refine o_mov rfl rfl ?_
    refine o_nil (smSeq_normal (sm_of rfl (s_ret ?_)))
    exact ⟨.inr rfl, .inr ⟨m, [_, _], [], rfl, rfl, [_, _], ⟨⟨c, _, _, rfl, .tail _ (.head _), rfl⟩, rfl, trivial⟩, _, _, rfl⟩⟩
  · refine s_skip (smSeq_normal ?_)
    refine sm_seq (sm_of rfl (s_ops ?_))
    refine o_ld1 rfl (.tail _ (.head _)) rfl rfl ?_
    refine o_mov rfl rfl ?_
    refine o_stN (M1 := [_]) (c := [I64 z]) (cn := [I64 z]) rfl rfl rfl rfl (by show 0 + 1 ≤ 1; exact Nat.le_refl _) rfl rfl ?_
    refine o_mov rfl rfl ?_
    refine o_nil (smSeq_normal (sm_of rfl (s_ret ?_)))
    exact ⟨.inr rfl, .inr ⟨m, [_, _], [], rfl, rfl, [_, _], ⟨⟨c, _, _, rfl, .tail _ (.head _), rfl⟩, rfl, trivial⟩, _, _, rfl⟩⟩

end Go.Proofs.YtfonnebpnobomaaDoor.W
namespace Go.Proofs.YtfonnebpnobomaaDoor.W
open Go Am code
set_option maxRecDepth 100000
set_option maxHeartbeats 4000000
set_option linter.unusedSimpArgs false
set_option linter.unusedVariables false
variable {E : Env} (hS : HasS E)

/-- a slice of runes that is the call's own -/
def RunesIs (sv : Value) (rs : List Int) (M : Ms) : Prop := ∃ Mo, Own 1 sv (rs.map fun r => I32 r) Mo ∧ ∀ x ∈ Mo, x ∈ M
include hS in
theorem runes_spec (bs : List UInt8) (h0 : 0 < bs.length) (H : Hp) (hT : TabOK H) (ob : Option Addr) (cap : Nat) (hcap : bs.length ≤ cap) (hsl : SlE H 1 ob (u8s bs)) (hlen : bs.length ≤ 1000000) : Sc E 65 [.slice ob bs.length cap] H [] fun v M => ∃ sv e, v = .tuple ⟨[sv, I64 e]⟩ ∧ (e = 0 → ∃ rs, rs.length ≤ 1000000 ∧ RunesIs sv rs M) := by
  refine sc_bodyX hS.h65 rfl ?_
  show Sm E _ _ _ c65.body _ _ _ _
  unfold c65
  refine sm_seq (sm_of rfl (s_ops ?_))
  refine o_mov rfl rfl ?_
  refine o_mov rfl rfl ?_
  refine o_nil (smSeq_normal ?_)
  refine sm_seq (sm_of rfl (s_seq (s_ops ?_)))
  refine o_mov rfl rfl ?_
  refine o_callE rfl (ha1 rfl) rfl (fun H1 hH1 => rcheck_spec hS bs h0 H1 (hT.mono hH1) ob cap hcap (hsl.mono hH1 (fun _ _ => by simp)) hlen) ?_
  rintro v ⟨ca, ce, rfl⟩
  refine o_mov rfl rfl ?_
  refine o_ext rfl rfl rfl ?_
  refine o_ext rfl rfl rfl ?_
  refine o_mov rfl rfl ?_
  refine o_mov rfl rfl ?_
  refine o_nil (sSeq_normal (s_seq (s_ops ?_)))
  refine o_mov rfl rfl ?_
  refine o_bin rfl rfl rfl rfl ?_
  refine o_nil (sSeq_normal ?_)
  refine s_cond rfl (fun hc => ?_) (fun hc => ?_)
  · refine s_seq (s_ops ?_)
    refine o_mov rfl rfl ?_
    refine o_mov rfl rfl ?_
    refine o_mov rfl rfl ?_
    refine o_nil (sSeq_normal (s_ret (smSeq_ret ?_)))
    have hce : ce ≠ 0 := by simpa using hc
    exact ⟨.inr rfl, .inl ⟨rfl, [_, _], ⟨rfl, rfl, trivial⟩, _, _, rfl, fun h => absurd h hce⟩⟩
  refine s_skip (smSeq_normal ?_)
  refine sm_seq (sm_of rfl (s_ops ?_))
  refine o_newz rfl (fun c => ?_)
  refine o_nil (smSeq_normal ?_)
  refine sm_seq (sm_seq (sm_of rfl (s_ops ?_)))
  refine o_mov rfl rfl ?_
  refine o_call1 rfl (ha1 rfl) rfl (fun H1 _ => (all_spec hS (.slice ob bs.length cap) rfl H1).mono ?_)
  rintro v M1 ⟨bp, rfl, hbpM⟩
  refine o_nil (smSeq_normal ?_)
  refine sm_range (g := 86) (cap := [.pointer (some ⟨bp, 0, none⟩)]) rfl (by rw [hS.h86]; rfl) (fun F H1 m hF hH hm hme => ?_)
  obtain ⟨c1, c2, c3⟩ := own_lt hH (b := c) (y := .row [.slice none 0 0] true) (List.mem_append_right _ (.head _))
  obtain ⟨p1, p2, p3⟩ := own_lt hH (b := bp) (List.mem_append_left _ hbpM)
  have hpc : bp ≠ c := by
    rintro rfl
    rw [c3] at p3
    have h : Value.slice none 0 0 = .slice ob bs.length cap := by simpa using p3
    simp only [Value.slice.injEq] at h
    omega
  have hSt := ((St.refl H1 []).new .deferred).new (Blk.loop .ready none (F.wm [] false) [19, 20] (.ops [⟨(some 8), none, .mov (.tmp 20)⟩]) (.block 1 (.ops [⟨(some 21), none, .ld1 (.tmp 6)⟩, ⟨(some 22), none, .mov (.tmp 8)⟩, ⟨(some 23), none, .lits [(.int .i32 0)] 1 [(0, 1, (.tmp 22))]⟩, ⟨(some 24), none, .app 1 4 (.tmp 21) (.tmp 23)⟩, ⟨none, none, .st 1 (.tmp 6) (.tmp 24)⟩])))
  have hT1 := hT.mono (hH.sub (M' := []) (fun _ h => (by cases h)) .nil)
  have hTs := hT.sz
  have hsz := hH.size
  refine ⟨[m + 1, c], [], fun M1 => ∃ (k : Nat) (sv : Value) (Mo : Ms) (rs : List Int), k ≤ bs.length ∧ M1 = Mo ++ [(m + 1, Blk.loop .ready none (F.wm [] false) [19, 20] (.ops [⟨(some 8), none, .mov (.tmp 20)⟩]) (.block 1 (.ops [⟨(some 21), none, .ld1 (.tmp 6)⟩, ⟨(some 22), none, .mov (.tmp 8)⟩, ⟨(some 23), none, .lits [(.int .i32 0)] 1 [(0, 1, (.tmp 22))]⟩, ⟨(some 24), none, .app 1 4 (.tmp 21) (.tmp 23)⟩, ⟨none, none, .st 1 (.tmp 6) (.tmp 24)⟩]))), (c, Blk.row [sv] true)] ∧ Own 1 sv (rs.map fun r => I32 r) Mo ∧ rs.length = k, fun b hb => ?_, ?_, fun _ h => (by cases h), .nil, (all1_spec hS bs (m + 1) bp _ [m + 1, c] (hT1.mono hSt) ?_ ?_ ob cap hcap ((hsl.mono hH (fun _ _ => by simp)).mono hSt (fun _ _ => by simp)) ?_ hlen ?_ ?_ ⟨true, ?_⟩ (fun k M1 => ∃ (sv : Value) (Mo : Ms) (rs : List Int), k ≤ bs.length ∧ M1 = Mo ++ [(m + 1, Blk.loop .ready none (F.wm [] false) [19, 20] (.ops [⟨(some 8), none, .mov (.tmp 20)⟩]) (.block 1 (.ops [⟨(some 21), none, .ld1 (.tmp 6)⟩, ⟨(some 22), none, .mov (.tmp 8)⟩, ⟨(some 23), none, .lits [(.int .i32 0)] 1 [(0, 1, (.tmp 22))]⟩, ⟨(some 24), none, .app 1 4 (.tmp 21) (.tmp 23)⟩, ⟨none, none, .st 1 (.tmp 6) (.tmp 24)⟩]))), (c, Blk.row [sv] true)] ∧ Own 1 sv (rs.map fun r => I32 r) Mo ∧ rs.length = k) ?_ [(m + 1, Blk.loop .ready none (F.wm [] false) [19, 20] (.ops [⟨(some 8), none, .mov (.tmp 20)⟩]) (.block 1 (.ops [⟨(some 21), none, .ld1 (.tmp 6)⟩, ⟨(some 22), none, .mov (.tmp 8)⟩, ⟨(some 23), none, .lits [(.int .i32 0)] 1 [(0, 1, (.tmp 22))]⟩, ⟨(some 24), none, .app 1 4 (.tmp 21) (.tmp 23)⟩, ⟨none, none, .st 1 (.tmp 6) (.tmp 24)⟩]))), (c, Blk.row [.slice none 0 0] true)] ⟨_, [], [], Nat.zero_le _, rfl, .inl ⟨rfl, rfl, rfl⟩, rfl⟩ ?_ ?_).mono ?_, ?_⟩
  · simp at hb; rcases hb with rfl | rfl
    · exact .inl rfl
    · exact .inr (.inr c1)
  · simp; omega
  · simp; omega
  · simp; omega
  · intro a ha
    have := sl_lt hsl h0 a ha
    simp; omega
  · rw [Hp.size_new, Hp.size_new]; omega
  · simp; omega
  · rw [Hp.get_new, if_neg (by rw [Hp.size_new]; omega), Hp.get_new, if_neg (by omega)]; exact p3
  · refine yield_ok (n0 := 26) (F0 := F.wm [] false) (ps := [19, 20]) (asg := (.ops [⟨(some 8), none, .mov (.tmp 20)⟩])) (bd := (.block 1 (.ops [⟨(some 21), none, .ld1 (.tmp 6)⟩, ⟨(some 22), none, .mov (.tmp 8)⟩, ⟨(some 23), none, .lits [(.int .i32 0)] 1 [(0, 1, (.tmp 22))]⟩, ⟨(some 24), none, .app 1 4 (.tmp 21) (.tmp 23)⟩, ⟨none, none, .st 1 (.tmp 6) (.tmp 24)⟩]))) hF.n rfl rfl ?_
    rintro k args M2 hk ⟨i, r, rfl⟩ ⟨sv, Mo, rs, _, rfl, hO, hrs⟩
    obtain ⟨F1, e1, e2⟩ := setP2 (a1 := I64 i) (a2 := I32 r) (p1 := 19) (p2 := 20) hF rfl rfl
    refine ⟨Mo, [(c, .row [sv] true)], F1, _, rfl, e1, e2, ?_⟩
    refine s_ops ?_
    refine o_mov rfl rfl ?_
    refine o_nil ⟨rfl, rfl, ?_⟩
    refine s_block (s_ops ?_)
    refine o_ld1 (v := sv) (c := [sv]) (own := true) rfl (List.mem_append_right _ (.tail _ (.head _))) rfl rfl ?_
    refine o_mov rfl rfl ?_
    refine o_lits (c := [I32 r]) (fun F hF => by simp only [List.map, hF.ev (x := .tmp 22) rfl]; rfl) rfl (fun bl => ?_)
    refine o_app (cs := rs.map fun r => I32 r) (Mo := Mo) (Mr := [(m + 1, _), (c, .row [sv] true)]) (len := k) (new := [I32 r]) rfl rfl hO (by simp [hrs]) (by decide) (by decide) (fun H3 hH3 => ?_) rfl (by omega) (.cons _ (.refl _)) rfl (fun b' => ?_)
    · have := (hH3.here bl _ (.head _)).1
      simp only [Hp.cells?, this]
      rfl
    refine o_stN (M1 := [(b', .row ((rs.map fun r => I32 r) ++ [I32 r]) true), (m + 1, _)]) (c := [sv]) rfl rfl rfl rfl (by show 0 + 1 ≤ 1; exact Nat.le_refl _) rfl rfl ?_
    refine o_nil (sBlock_normal ⟨rfl, [(b', .row ((rs.map fun r => I32 r) ++ [I32 r]) true)], _, rfl, ?_⟩)
    refine ⟨.slice (some ⟨b', 0, some 2⟩) (k + 1) (k + 1), [(b', .row ((rs.map fun r => I32 r) ++ [I32 r]) true)], rs ++ [r], by omega, rfl, .inr ⟨b', k + 1, k + 1, 2, _, rfl, rfl, by simp [hrs], ?_, by simp [hrs], .inr ⟨rfl, by omega, Nat.le_refl _⟩⟩, by simp [hrs]⟩
    rw [List.take_of_length_le (by simp [hrs])]; simp
  · intro b x hx
    simp at hx
    rcases hx with ⟨rfl, rfl⟩ | ⟨rfl, rfl⟩
    · refine ⟨?_, ?_, by simp⟩
      · rw [Hp.get_new, if_pos (by rw [Hp.size_new, hme])]
      · rw [Hp.size_new, Hp.size_new]; omega
    · refine ⟨?_, ?_, by simp⟩
      · rw [Hp.get_new, if_neg (by rw [Hp.size_new]; omega), Hp.get_new, if_neg (by omega)]; exact c3
      · rw [Hp.size_new, Hp.size_new]; omega
  · simp; omega
  · rintro v M2 ⟨k, sv, Mo, rs, h⟩
    exact ⟨k, sv, Mo, rs, h⟩
  rintro M2 ⟨k, sv, Mo, rs, hk, rfl, hO, hrs⟩
  refine ⟨Mo, [(c, .row [sv] true)], rfl, smSeq_normal ?_⟩
  refine sm_seq (sm_of rfl (s_ops ?_))
  refine o_ld1 (v := sv) (c := [sv]) (own := true) (a := ⟨c, 0, none⟩) rfl (by simp) rfl rfl ?_
  refine o_mov rfl rfl ?_
  refine o_mov rfl rfl ?_
  refine o_nil (smSeq_normal (sm_of rfl (s_ret ?_)))
  exact ⟨.inr rfl, .inr ⟨m, _, [], rfl, rfl, [_, _], ⟨rfl, rfl, trivial⟩, _, _, rfl, fun _ => ⟨rs, by omega, Mo, hO, fun x hx => by simp [hx]⟩⟩⟩

end Go.Proofs.YtfonnebpnobomaaDoor.W
namespace Go.Proofs.YtfonnebpnobomaaDoor.W
open Go Am code
set_option maxRecDepth 100000
set_option maxHeartbeats 4000000
set_option linter.unusedSimpArgs false
set_option linter.unusedVariables false
variable {E : Env} (hS : HasS E)

def digits : ByteArray := ⟨#[48, 49, 50, 51, 52, 53, 54, 55, 56, 57]⟩
/-- what is asked of the library's functions on strings -/
structure StrOK (E : Env) : Prop where
  tp : ∀ s p H, Sc E 62 [.string s, .string p] H [] fun v _ => v = .string ⟨(Lib.trimPrefix s.data.toList p.data.toList).toArray⟩
  tl : ∀ s H, Sc E 61 [.string s, .string digits] H [] fun v _ => v = .string ⟨(Lib.trimLeftS s.data.toList digits.data.toList).toArray⟩
  ca : ∀ (s : ByteArray) H, s.size ≤ 24 → (∀ b ∈ s.data.toList, b.toNat < 128) → Sc E 63 [.string s, .string digits] H [] fun v _ => ∃ p, v = .bool p
  hp : ∀ s p H, Sc E 64 [.string s, .string p] H [] fun v _ => ∃ p, v = .bool p
theorem mem_trimPrefix {l p : List UInt8} {b : UInt8} (h : b ∈ l) : b ∈ p ∨ b ∈ Lib.trimPrefix l p := by
  unfold Lib.trimPrefix
  split
  · rename_i hp
    unfold Lib.hasPrefix at hp
    obtain ⟨t, rfl⟩ := List.isPrefixOf_iff_prefix.1 hp
    rw [List.drop_left]
    exact List.mem_append.1 h
  · exact .inr h
theorem dropWhile_nil {p : UInt8 → Bool} : ∀ {l : List UInt8}, l.dropWhile p = [] → ∀ b ∈ l, p b = true := by
  intro l
  induction l with
  | nil => intro _ b h; cases h
  | cons x l ih =>
    intro h b hb
    rw [List.dropWhile_cons] at h
    split at h
    · rename_i hx
      rcases List.mem_cons.1 hb with rfl | hb
      · exact hx
      · exact ih h b hb
    · cases h
theorem ascii_of {l : List UInt8} (h : Lib.trimLeftS (Lib.trimPrefix (Lib.trimPrefix l [43]) [45]) digits.data.toList = []) : ∀ b ∈ l, b.toNat < 128 := by
  intro b hb
  rcases mem_trimPrefix (p := [43]) hb with h1 | h1
  · simp at h1; subst h1; decide
  · rcases mem_trimPrefix (p := [45]) h1 with h2 | h2
    · simp at h2; subst h2; decide
    · unfold Lib.trimLeftS at h
      have h3 : digits.data.toList.contains b = true := by
        have := dropWhile_nil h b h2
        simpa using this
      have h4 : b ∈ digits.data.toList := by simpa using h3
      have h5 : ∀ c ∈ digits.data.toList, c.toNat < 128 := by decide
      exact h5 b h4
theorem RunesIs.form {sv : Value} {rs : List Int} {M : Ms} (h : RunesIs sv rs M) : ∃ ob cap, sv = .slice ob rs.length cap ∧ ∀ (i : Nat) (hi : i < rs.length), ob.isSome = true ∧ ∃ row, ((adr ob 1 i).block, Blk.row row true) ∈ M ∧ row[(adr ob 1 i).off]? = some (I32 rs[i]) := by
  obtain ⟨Mo, hO, hM⟩ := h
  rcases hO with ⟨rfl, rfl, h3⟩ | ⟨b, len, cap, sp, row, rfl, rfl, h3, h4, h5, h6⟩
  · have : rs.length = 0 := by simpa using congrArg List.length h3
    exact ⟨none, 0, by rw [this], fun i hi => by omega⟩
  · rw [List.length_map, Nat.mul_one] at h3
    subst h3
    refine ⟨some ⟨b, 0, some sp⟩, cap, rfl, fun i hi => ⟨rfl, row, hM _ (by simp [adr]), ?_⟩⟩
    have e : (row.take (rs.length * 1))[i]? = some (I32 rs[i]) := by rw [h4]; simp [hi]
    rw [List.getElem?_take, if_pos (by omega)] at e
    show row[0 + i * 1]? = _
    rw [Nat.zero_add, Nat.mul_one]; exact e
theorem cvb_row (s : ByteArray) : (s.data.toList.map fun c => (.int .u8 c.toNat : Value)) = (u8s s.data.toList).flatten := by
  unfold u8s
  generalize s.data.toList = l
  induction l with
  | nil => rfl
  | cons x l ih => rw [List.map_cons, List.map_cons, List.flatten_cons, ih]; rfl

include hS in
theorem symbol_spec (hstr : StrOK E) (s : ByteArray) (H : Hp) (hT : TabOK H) : Sc E 56 [.string s] H [] fun v _ => ∃ p, v = .bool p := by
  refine sc_body hS.h56 rfl ?_
  show Ss E _ _ _ c56.body _ _ _
  unfold c56
  refine s_seq ?_
  refine s_ops ?_
  refine o_mov rfl rfl ?_
  refine o_nil ?_
  refine sSeq_normal ?_
  refine s_seq ?_
  refine s_seq ?_
  refine s_ops ?_
  refine o_mov rfl rfl ?_
  refine o_bin rfl rfl rfl rfl ?_
  refine o_mov rfl rfl ?_
  refine g_mov (by first | exact wanted_b rfl | exact wanted_g rfl) (by first | exact evG rfl | exact evG2 rfl | exact evG3 rfl | exact fun _ => rfl) rfl ?_
  refine g_lns (by first | exact wanted_b rfl | exact wanted_g rfl) (by first | exact evG rfl | exact evG2 rfl | exact evG3 rfl | exact fun _ => rfl) rfl ?_
  refine g_bin (by first | exact wanted_b rfl | exact wanted_g rfl) (by first | exact evG rfl | exact evG2 rfl | exact evG3 rfl | exact fun _ => rfl) (by first | exact evG rfl | exact evG2 rfl | exact evG3 rfl | exact fun _ => rfl) (fun _ => rfl) rfl ?_
  refine o_pickB rfl (by first | exact fun h => evG rfl (by rw [h]; rfl) | exact fun _ => rfl) (by first | exact fun h => evG rfl (by rw [h]; rfl) | exact fun _ => rfl) rfl ?_
  refine o_nil ?_
  refine sSeq_normal ?_
  refine s_cond rfl (fun hc0 => ?_) (fun hc0 => ?_)
  · skip
    refine s_seq ?_
    refine s_ops ?_
    refine o_mov rfl rfl ?_
    refine o_nil ?_
    refine sSeq_normal ?_
    refine s_ret ?_
    refine sSeq_ret ?_
    refine sRet_ret [_] ⟨rfl, trivial⟩ ?_
    exact ⟨_, rfl⟩
  · have hs : 0 < s.data.toList.length ∧ s.data.toList.length ≤ 24 := by
      cases h : (s.toList == (⟨#[]⟩ : ByteArray).toList) with
      | true => rw [h] at hc0; cases hc0
      | false =>
        rw [h] at hc0
        simp [gv] at hc0
        have h2 : s.toList ≠ [] := by
          intro e
          rw [e, Lib.toList_data] at h
          cases h
        rw [Lib.toList_data] at h2
        have h3 := Lib.size_eq s
        have h4 : s.data.toList.length ≠ 0 := fun e => h2 (List.eq_nil_of_length_eq_zero e)
        omega
    refine s_skip ?_
    refine sSeq_normal ?_
    refine s_seq ?_
    refine s_ops ?_
    refine o_mov rfl rfl ?_
    refine o_call0 rfl (ha2 rfl rfl) rfl (fun H1 _ => hstr.tp s ⟨#[43]⟩ H1) ?_
    refine o_call0 rfl (ha2 rfl rfl) rfl (fun H1 _ => hstr.tp _ ⟨#[45]⟩ H1) ?_
    refine o_call0 rfl (ha2 rfl rfl) rfl (fun H1 _ => hstr.tl _ H1) ?_
    refine o_mov rfl rfl ?_
    refine o_nil ?_
    refine sSeq_normal ?_
    refine s_seq ?_
    refine s_seq ?_
    refine s_ops ?_
    refine o_mov rfl rfl ?_
    refine o_bin rfl rfl rfl rfl ?_
    refine o_mov rfl rfl ?_
    refine g_mov (by first | exact wanted_b rfl | exact wanted_g rfl) (by first | exact evG rfl | exact evG2 rfl | exact evG3 rfl | exact fun _ => rfl) rfl ?_
    refine g_callB (by first | exact wanted_b rfl | exact wanted_g rfl) rfl (fun hw => ha2 (evG rfl hw) rfl) rfl (fun hw H1 _ => hstr.ca s H1 (by rw [Lib.size_eq]; exact hs.2) (ascii_of ?_)) (fun pca => ?_)
    · have h1 := hw
      simp only [beq_iff_eq] at h1
      rw [Lib.toList_data, Lib.toList_data] at h1
      simpa using h1
    refine o_pickB rfl (by first | exact fun h => evG rfl (by rw [h]; rfl) | exact fun _ => rfl) (by first | exact fun h => evG rfl (by rw [h]; rfl) | exact fun _ => rfl) rfl ?_
    refine o_mov rfl rfl ?_
    refine g_mov (by first | exact wanted_b rfl | exact wanted_g rfl) (by first | exact evG rfl | exact evG2 rfl | exact evG3 rfl | exact fun _ => rfl) rfl ?_
    refine g_callB (by first | exact wanted_b rfl | exact wanted_g rfl) rfl (fun hw => ha2 (evG rfl hw) rfl) rfl (fun hw H1 _ => hstr.hp s ⟨#[43, 45]⟩ H1) (fun php => ?_)
    refine g_not (by first | exact wanted_b rfl | exact wanted_g rfl) (by first | exact evG rfl | exact evG2 rfl | exact evG3 rfl | exact fun _ => rfl) rfl ?_
    refine o_pickB rfl (by first | exact fun h => evG rfl (by rw [h]; rfl) | exact fun _ => rfl) (by first | exact fun h => evG rfl (by rw [h]; rfl) | exact fun _ => rfl) rfl ?_
    refine o_nil ?_
    refine sSeq_normal ?_
    refine s_cond rfl (fun hc1 => ?_) (fun hc1 => ?_)
    · skip
      refine s_seq ?_
      refine s_ops ?_
      refine o_mov rfl rfl ?_
      refine o_nil ?_
      refine sSeq_normal ?_
      refine s_ret ?_
      refine sSeq_ret ?_
      refine sRet_ret [_] ⟨rfl, trivial⟩ ?_
      exact ⟨_, rfl⟩
    · skip
      refine s_skip ?_
      refine sSeq_normal ?_
      refine s_seq ?_
      refine s_ops ?_
      refine o_mov rfl rfl ?_
      refine o_cvb rfl rfl (fun b27 => ?_)
      rw [cvb_row s, Lib.size_eq s]
      refine o_call1 rfl (ha1 rfl) rfl (fun H1 hH1 => (runes_spec hS s.data.toList hs.1 H1 (hT.mono (hH1.sub (M' := []) (fun _ h => (by cases h)) .nil)) _ _ (Nat.le_refl _) ?_ (by omega)).mono ?_)
      · have h1 := hH1.here b27 _ (.head _)
        exact SlE.own (rest := []) (fun e he => by unfold u8s at he; obtain ⟨x, _, rfl⟩ := List.mem_map.1 he; rfl) h1.2.1 (by rw [List.append_nil]; exact h1.1)
      rintro v M1 ⟨sv, e, rfl, hr⟩
      refine o_mov rfl rfl ?_
      refine o_ext rfl rfl rfl ?_
      refine o_ext rfl rfl rfl ?_
      refine o_mov rfl rfl ?_
      refine o_mov rfl rfl ?_
      refine o_nil ?_
      refine sSeq_normal ?_
      refine s_seq ?_
      refine s_seq ?_
      refine s_ops ?_
      refine o_mov rfl rfl ?_
      refine o_bin rfl rfl rfl rfl ?_
      refine o_nil ?_
      refine sSeq_normal ?_
      refine s_cond rfl (fun hc2 => ?_) (fun hc2 => ?_)
      · skip
        refine s_seq ?_
        refine s_ops ?_
        refine o_mov rfl rfl ?_
        refine o_nil ?_
        refine sSeq_normal ?_
        refine s_ret ?_
        refine sSeq_ret ?_
        refine sRet_ret [_] ⟨rfl, trivial⟩ ?_
        exact ⟨_, rfl⟩
      · have he : e = 0 := by simpa using hc2
        obtain ⟨rs, hrl, hR⟩ := hr he
        obtain ⟨ob, cap, rfl, hget⟩ := hR.form
        refine s_skip ?_
        refine sSeq_normal ?_
        refine s_seq ?_
        refine s_seq ?_
        refine s_ops ?_
        refine o_mov rfl rfl ?_
        refine o_lnl rfl rfl ?_
        refine o_mov rfl rfl ?_
        refine o_nil ?_
        refine sSeq_normal ?_
        refine s_block ?_
        refine s_iter (α := Nat) (fun k => rs.length - k) (fun k => [(40, .slice ob rs.length cap), (41, I64 (rs.length : Nat)), (42, I64 (k : Nat))]) (fun _ => M1) (fun k => k ≤ rs.length) 0 (subCons rfl (subCons rfl (subCons rfl subNil))) (List.sublist_append_left _ _) (Nat.zero_le _) ?_
        intro k hk
        refine s_seq ?_
        refine s_ops ?_
        refine o_bin rfl rfl rfl rfl ?_
        refine o_nil ?_
        refine sSeq_normal ?_
        refine s_seq ?_
        refine s_cond rfl (fun hc3 => ?_) (fun hc3 => ?_)
        · have hk2 : k < rs.length := by simp at hc3; omega
          obtain ⟨hob, row, hrow1, hrow2⟩ := hget k hk2
          refine s_skip ?_
          refine sSeq_normal ?_
          refine s_seq ?_
          refine s_block ?_
          refine s_seq ?_
          refine s_ops ?_
          refine o_iad rfl rfl hk2 hob rfl ?_
          refine o_ld1 rfl hrow1 hrow2 rfl ?_
          refine o_mov rfl rfl ?_
          refine o_nil ?_
          refine sSeq_normal ?_
          refine s_seq ?_
          refine s_ops ?_
          refine o_mov rfl rfl ?_
          refine o_callE rfl (ha1 rfl) rfl (fun H1 _ => class_spec hS _ H1) ?_
          rintro v ⟨cc, ce, rfl⟩
          refine o_mov rfl rfl ?_
          refine o_ext rfl rfl rfl ?_
          refine o_ext rfl rfl rfl ?_
          refine o_mov rfl rfl ?_
          refine o_mov rfl rfl ?_
          refine o_nil ?_
          refine sSeq_normal ?_
          refine s_seq ?_
          refine s_ops ?_
          refine o_mov rfl rfl ?_
          refine o_nil ?_
          refine sSeq_normal ?_
          refine s_block ?_
          refine s_seq ?_
          refine s_seq ?_
          refine s_ops ?_
          refine o_bin rfl rfl rfl rfl ?_
          refine o_mov rfl rfl ?_
          refine o_nil ?_
          refine sSeq_normal ?_
          refine s_cond rfl (fun hc4 => ?_) (fun hc4 => ?_)
          · skip
            refine s_skip ?_
            refine sSeq_normal ?_
            refine s_cond rfl (fun hc6 => ?_) (fun hc6 => ?_)
            · skip
              refine s_skip ?_
              refine sBlock_normal ?_
              refine sBlock_normal ?_
              refine sSeq_normal ?_
              refine s_ops ?_
              refine o_bin (v := I64 (k + 1 : Nat)) rfl rfl (by simp only [binV, binInt, if_true]; rw [wrap64 (by omega) (by omega)]; rfl) rfl ?_
              refine o_mov rfl rfl ?_
              refine o_nil ?_
              exact sIter_next (k + 1) (by omega) (subCons rfl (subCons rfl (subCons rfl subNil))) (.refl _) hk2
            · skip
              refine s_seq ?_
              refine s_ops ?_
              refine o_mov rfl rfl ?_
              refine o_nil ?_
              refine sSeq_normal ?_
              refine s_ret ?_
              refine sBlock_ret ?_
              refine sBlock_ret ?_
              refine sSeq_ret ?_
              refine sIter_ret ?_
              refine sBlock_ret ?_
              refine sSeq_ret ?_
              refine sRet_ret [_] ⟨rfl, trivial⟩ ?_
              exact ⟨_, rfl⟩
          · skip
            refine s_seq ?_
            refine s_ops ?_
            refine o_bin rfl rfl rfl rfl ?_
            refine o_mov rfl rfl ?_
            refine o_nil ?_
            refine sSeq_normal ?_
            refine s_cond rfl (fun hc5 => ?_) (fun hc5 => ?_)
            · skip
              refine s_skip ?_
              refine sSeq_normal ?_
              refine s_cond rfl (fun hc6 => ?_) (fun hc6 => ?_)
              · skip
                refine s_skip ?_
                refine sBlock_normal ?_
                refine sBlock_normal ?_
                refine sSeq_normal ?_
                refine s_ops ?_
                refine o_bin (v := I64 (k + 1 : Nat)) rfl rfl (by simp only [binV, binInt, if_true]; rw [wrap64 (by omega) (by omega)]; rfl) rfl ?_
                refine o_mov rfl rfl ?_
                refine o_nil ?_
                exact sIter_next (k + 1) (by omega) (subCons rfl (subCons rfl (subCons rfl subNil))) (.refl _) hk2
              · skip
                refine s_seq ?_
                refine s_ops ?_
                refine o_mov rfl rfl ?_
                refine o_nil ?_
                refine sSeq_normal ?_
                refine s_ret ?_
                refine sBlock_ret ?_
                refine sBlock_ret ?_
                refine sSeq_ret ?_
                refine sIter_ret ?_
                refine sBlock_ret ?_
                refine sSeq_ret ?_
                refine sRet_ret [_] ⟨rfl, trivial⟩ ?_
                exact ⟨_, rfl⟩
            · skip
              refine s_ops ?_
              refine o_bin rfl rfl rfl rfl ?_
              refine o_mov rfl rfl ?_
              refine o_nil ?_
              refine sSeq_normal ?_
              refine s_cond rfl (fun hc6 => ?_) (fun hc6 => ?_)
              · skip
                refine s_skip ?_
                refine sBlock_normal ?_
                refine sBlock_normal ?_
                refine sSeq_normal ?_
                refine s_ops ?_
                refine o_bin (v := I64 (k + 1 : Nat)) rfl rfl (by simp only [binV, binInt, if_true]; rw [wrap64 (by omega) (by omega)]; rfl) rfl ?_
                refine o_mov rfl rfl ?_
                refine o_nil ?_
                exact sIter_next (k + 1) (by omega) (subCons rfl (subCons rfl (subCons rfl subNil))) (.refl _) hk2
              · skip
                refine s_seq ?_
                refine s_ops ?_
                refine o_mov rfl rfl ?_
                refine o_nil ?_
                refine sSeq_normal ?_
                refine s_ret ?_
                refine sBlock_ret ?_
                refine sBlock_ret ?_
                refine sSeq_ret ?_
                refine sIter_ret ?_
                refine sBlock_ret ?_
                refine sSeq_ret ?_
                refine sRet_ret [_] ⟨rfl, trivial⟩ ?_
                exact ⟨_, rfl⟩
        · skip
          refine s_exit ?_
          refine sSeq_exit ?_
          refine sIter_exit ?_
          refine sBlock_exit ?_
          refine sSeq_normal ?_
          refine s_seq ?_
          refine s_ops ?_
          refine o_mov rfl rfl ?_
          refine o_nil ?_
          refine sSeq_normal ?_
          refine s_ret ?_
          refine sRet_ret [_] ⟨rfl, trivial⟩ ?_
          exact ⟨_, rfl⟩

end Go.Proofs.YtfonnebpnobomaaDoor.W
namespace Go.Proofs.YtfonnebpnobomaaDoor.W
open Go Am code
set_option maxRecDepth 100000
set_option maxHeartbeats 4000000
set_option linter.unusedSimpArgs false
set_option linter.unusedVariables false
/-- an argument of the world: a slice of nodes -/
structure WArg (w : World) (v : Value) (t : List Node) : Prop where
  is : ∃ ob cap, v = .slice ob t.length cap ∧ t.length ≤ cap ∧ (ob = none → cap = 0) ∧ ∀ a, ob = some a → (0 < cap → a.spot = none) ∧ ∀ (i : Nat) (hi : i < t.length) (j : Nat) v, (t[i].cells)[j]? = some v → w.cell? ⟨a.block, a.off + i * 6 + j, none⟩ = some v
  ok : TermOK t
/-- what stands for it in the abstract memory, where its row is the k-th -/
def absV (N k : Nat) : Value → Value
  | .slice (some _) l c => .slice (some ⟨N + k, 0, none⟩) l c
  | v => v
def atOf : Value → Nat × Nat
  | .slice (some a) _ _ => (a.block, a.off)
  | _ => (0, 0)
theorem cells_len (t : List Node) : ∀ e ∈ t.map Node.cells, e.length = 6 := fun e he => by obtain ⟨x, _, rfl⟩ := List.mem_map.1 he; rfl
theorem flat_at {t : List Node} {i : Nat} {v : Value} (h : ((t.map Node.cells).flatten)[i]? = some v) : ∃ (q : Nat) (hq : q < t.length) (r : Nat), i = q * 6 + r ∧ (t[q].cells)[r]? = some v := by
  have hlt := (List.getElem?_eq_some_iff.1 h).1
  rw [flatten_len (cells_len t), List.length_map] at hlt
  have hq : i / 6 < t.length := by omega
  refine ⟨i / 6, hq, i % 6, by omega, ?_⟩
  have hf := flatten_at (cells_len t) (i := i / 6) (by simpa using hq)
  have e : ((t.map Node.cells).flatten.drop (i / 6 * 6)).take 6 = t[i / 6].cells := by rw [hf]; simp
  rw [← e, List.getElem?_take, if_pos (by omega), List.getElem?_drop, ← h]
  congr 1; omega
theorem WArg.row {w : World} {v : Value} {t : List Node} (h : WArg w v t) (ρ : Ren) {g s : Nat} (hat : atOf v = (g, s)) : ∀ (i : Nat) x, ((t.map Node.cells).flatten)[i]? = some x → ∃ x', w.cell? ⟨g, s + i, none⟩ = some x' ∧ VRel ρ x x' := by
  intro i x hx
  obtain ⟨ob, cap, rfl, h1, h2, h3⟩ := h.is
  obtain ⟨q, hq, r, rfl, hr⟩ := flat_at hx
  cases ob with
  | none => have := h2 rfl; omega
  | some a =>
    cases hat
    refine ⟨x, ?_, .flat ?_⟩
    · have := (h3 a rfl).2 q hq r x hr
      rw [← this]; congr 2; omega
    · have hm := List.mem_of_getElem? hr
      simp only [Node.cells, List.mem_cons, List.not_mem_nil, or_false] at hm
      rcases hm with rfl | rfl | rfl | rfl | rfl | rfl <;> rfl
theorem WArg.rel {w : World} {v : Value} {t : List Node} (h : WArg w v t) {N k : Nat} {at_ : List (Nat × Nat)} (hk : at_[k]? = some (atOf v)) : VRel (renA N at_) (absV N k v) v := by
  obtain ⟨ob, cap, rfl, h1, h2, h3⟩ := h.is
  cases ob with
  | none => exact .flat rfl
  | some a =>
    refine .slice h1 (Nat.le_refl _) (fun _ => rfl) (fun hc => ⟨a.block, a.off, ?_, ?_⟩) (fun j hj => by simp [isRoomy] at hj)
    · simp only [renA]
      rw [if_neg (by omega), Nat.add_sub_cancel_left, hk]; rfl
    · have := (h3 a rfl).1 hc
      cases a; simp only at this; subst this; rfl
theorem WArg.arg {w : World} {v : Value} {t : List Node} (h : WArg w v t) {H : Hp} {N k : Nat} (hg : H.get (N + k) = blkOf (t.map Node.cells).flatten) (hs : N + k < H.size) : ArgIs H (absV N k v) t := by
  obtain ⟨ob, cap, rfl, h1, h2, h3⟩ := h.is
  refine ⟨?_, h.ok⟩
  by_cases ht : t = []
  · subst ht
    cases ob with
    | none => exact ⟨none, cap, rfl, h1, ⟨fun e he => (by cases he), fun he => absurd rfl he⟩⟩
    | some a => exact ⟨_, cap, rfl, h1, ⟨fun e he => (by cases he), fun he => absurd rfl he⟩⟩
  · cases ob with
    | none =>
      have := h2 rfl
      have : t.length = 0 := by omega
      exact absurd (List.eq_nil_of_length_eq_zero this) ht
    | some a =>
      refine ⟨some ⟨N + k, 0, none⟩, cap, rfl, h1, SlE.own (rest := []) (own := false) (cells_len t) hs ?_⟩
      rw [hg, List.append_nil]
      have hne : (t.map Node.cells).flatten ≠ [] := by
        intro e
        have := flatten_len (cells_len t)
        rw [e, List.length_map] at this
        have : t.length = 0 := by simp at this; omega
        exact ht (List.eq_nil_of_length_eq_zero this)
      unfold blkOf
      split
      · rename_i e; exact absurd e hne
      · rfl
/-! reading -/
theorem cell_spot {w : World} {a : Addr} {v : Value} (h : w.cell? a = some v) : a.spot = none ∧ w.cell? ⟨a.block, a.off, none⟩ = some v := by
  have hs : a.spot = none := by
    unfold World.cell? at h
    split at h
    · split at h
      · cases h
      · rename_i hn
        cases hsp : a.spot with
        | none => rfl
        | some x => rw [hsp] at hn; simp at hn
    · cases h
  refine ⟨hs, ?_⟩
  cases a; simp only at hs; subst hs; exact h
theorem cells_get {w : World} {b : Nat} {a : Addr} {n : Nat} {cs : List Value} (h : w.cells? b a n = some cs) : cs.length = n ∧ ∀ (j : Nat) v, cs[j]? = some v → w.cell? (a.add j) = some v := by
  unfold World.cells? at h
  split at h
  · have hl : cs.length = n := by simpa using mapM_some_length h
    refine ⟨hl, fun j v hj => ?_⟩
    have hlt : j < n := by rw [← hl]; exact (List.getElem?_eq_some_iff.1 hj).1
    have := mapM_some_get h j j (by simp [hlt])
    rw [this]; exact hj
  · cases h
theorem list_of {α : Type} {Pr : Nat → α → Prop} : ∀ (n : Nat), (∀ i, i < n → ∃ x, Pr i x) → ∃ l : List α, l.length = n ∧ ∀ (i : Nat) (hi : i < l.length), Pr i l[i] := by
  intro n
  induction n with
  | zero => intro _; exact ⟨[], rfl, fun i hi => by cases hi⟩
  | succ n ih =>
    intro h
    obtain ⟨l, h1, h2⟩ := ih fun i hi => h i (by omega)
    obtain ⟨x, hx⟩ := h n (by omega)
    refine ⟨l ++ [x], by simp [h1], fun i hi => ?_⟩
    by_cases hlt : i < l.length
    · rw [List.getElem_append_left hlt]; exact h2 i hlt
    · have : i = n := by simp at hi; omega
      subst this
      rw [List.getElem_append_right (by omega)]
      simpa [h1] using hx
/-- the type of nodes -/
structure NodeT (P : Program) (e : TypeId) : Prop where
  cells : P.cellsOf e = 6
  st : ∃ fs : Array Field, P.underlying e = some (.struct fs) ∧ ∃ f0 f1 f2 f3 f4 f5, fs = #[f0, f1, f2, f3, f4, f5] ∧ (f0.offset = 0 ∧ f1.offset = 1 ∧ f2.offset = 2 ∧ f3.offset = 3 ∧ f4.offset = 4 ∧ f5.offset = 5) ∧
    (P.cellsOf f0.type = 1 ∧ P.cellsOf f1.type = 1 ∧ P.cellsOf f2.type = 1 ∧ P.cellsOf f3.type = 1 ∧ P.cellsOf f4.type = 1 ∧ P.cellsOf f5.type = 1) ∧
    P.underlying f0.type = some (.int .i64) ∧ P.underlying f1.type = some (.int .i64) ∧ P.underlying f2.type = some (.int .i64) ∧ P.underlying f3.type = some .string ∧ P.underlying f4.type = some (.int .i32) ∧ P.underlying f5.type = some (.int .i32)
section
variable {D : Type} {enc : TypeId × Value → D} {P : Program} {w : World} {base : Nat} {spare : Nat → Bool} {held : Bool}
theorem read_node {e : TypeId} (hN : NodeT P e) {n : Nat} {cs : List Value} {x : DataW D × List MemPlace} (h : DataW.trod enc P w base spare held n e cs = some x) : ∃ nd : Node, cs = nd.cells ∧ nd.kids ≤ 9223372036854775807 := by
  obtain ⟨fs, he, f0, f1, f2, f3, f4, f5, rfl, ⟨o0, o1, o2, o3, o4, o5⟩, ⟨c0, c1, c2, c3, c4, c5⟩, u0, u1, u2, u3, u4, u5⟩ := hN.st
  obtain ⟨xs, m, _, _, hl, hxs, hf⟩ := DataW.trod_struct he h
  rw [hN.cells] at hl
  have hx : ∀ i, i < 6 → ∃ y, xs[i]? = some y := fun i hi => ⟨xs[i]'(by rw [hxs]; exact hi), List.getElem?_eq_getElem _⟩
  match cs, hl with
  | [v0, v1, v2, v3, v4, v5], _ =>
    obtain ⟨y0, e0⟩ := hx 0 (by omega)
    obtain ⟨y1, e1⟩ := hx 1 (by omega)
    obtain ⟨y2, e2⟩ := hx 2 (by omega)
    obtain ⟨y3, e3⟩ := hx 3 (by omega)
    obtain ⟨y4, e4⟩ := hx 4 (by omega)
    obtain ⟨y5, e5⟩ := hx 5 (by omega)
    have g0 := hf 0 f0 rfl
    have g1 := hf 1 f1 rfl
    have g2 := hf 2 f2 rfl
    have g3 := hf 3 f3 rfl
    have g4 := hf 4 f4 rfl
    have g5 := hf 5 f5 rfl
    rw [o0, c0, e0] at g0
    rw [o1, c1, e1] at g1
    rw [o2, c2, e2] at g2
    rw [o3, c3, e3] at g3
    rw [o4, c4, e4] at g4
    rw [o5, c5, e5] at g5
    obtain ⟨k0, a0, _, _⟩ := DataW.trod_int u0 g0
    obtain ⟨k1, a1, _, w1⟩ := DataW.trod_int u1 g1
    obtain ⟨k2, a2, _, _⟩ := DataW.trod_int u2 g2
    obtain ⟨k3, a3, _, _⟩ := DataW.trod_string u3 g3
    obtain ⟨k4, a4, _, _⟩ := DataW.trod_int u4 g4
    obtain ⟨k5, a5, _, _⟩ := DataW.trod_int u5 g5
    simp at a0 a1 a2 a3 a4 a5
    subst a0 a1 a2 a3 a4 a5
    refine ⟨⟨k0, k1, k2, k3, k4, k5⟩, rfl, ?_⟩
    have h' : (decide (IntKind.i64.min ≤ k1) && decide (k1 ≤ IntKind.i64.max)) = true := w1
    rw [Bool.and_eq_true] at h'
    have e2 : IntKind.i64.max = 9223372036854775807 := by decide
    have := of_decide_eq_true h'.2
    rw [e2] at this; exact this
/-- the type of a pair of numbers -/
structure PairT (P : Program) (e : TypeId) : Prop where
  cells : P.cellsOf e = 2
  st : ∃ f0 f1 : Field, P.underlying e = some (.struct #[f0, f1]) ∧ f0.offset = 0 ∧ f1.offset = 1 ∧ P.cellsOf f0.type = 1 ∧ P.cellsOf f1.type = 1 ∧ P.underlying f0.type = some (.int .i64) ∧ P.underlying f1.type = some (.int .i64)
theorem read_pair {t : TypeId} (hN : PairT P t) {v : Value} {d : DataW D} {ps : List MemPlace} (hv : ∃ cs, v = .agg cs) (h : DataW.Trod enc P w base spare held t v d ps) : ∃ x y : Int, v = .agg ⟨[.int .i64 x, .int .i64 y]⟩ := by
  obtain ⟨fuel, hf⟩ := h
  obtain ⟨⟨cs⟩, rfl⟩ := hv
  obtain ⟨f0, f1, he, o0, o1, c0, c1, u0, u1⟩ := hN.st
  have hf' : DataW.trod enc P w base spare held fuel t cs = some (d, ps) := hf
  obtain ⟨xs, m, _, _, hl, hxs, hg⟩ := DataW.trod_struct he hf'
  rw [hN.cells] at hl
  have hx : ∀ i, i < 2 → ∃ y, xs[i]? = some y := fun i hi => ⟨xs[i]'(by rw [hxs]; exact hi), List.getElem?_eq_getElem _⟩
  match cs, hl with
  | [v0, v1], _ =>
    obtain ⟨y0, e0⟩ := hx 0 (by omega)
    obtain ⟨y1, e1⟩ := hx 1 (by omega)
    have g0 := hg 0 f0 rfl
    have g1 := hg 1 f1 rfl
    rw [o0, c0, e0] at g0
    rw [o1, c1, e1] at g1
    obtain ⟨k0, a0, _, _⟩ := DataW.trod_int u0 g0
    obtain ⟨k1, a1, _, _⟩ := DataW.trod_int u1 g1
    simp at a0 a1
    subst a0 a1
    exact ⟨k0, k1, rfl⟩
theorem read_nodes {t e : TypeId} (ht : P.underlying t = some (.slice e)) (hN : NodeT P e) {v : Value} {d : DataW D} {ps : List MemPlace} (hv : ∃ ob len cap, v = .slice ob len cap) (h : DataW.Trod enc P w 0 (fun _ => true) held t v d ps) : ∃ ts, WArg w v ts := by
  obtain ⟨fuel, hf⟩ := h
  obtain ⟨ob0, l0, c0, rfl⟩ := hv
  rcases DataW.trod_slice ht hf with ⟨h1, _⟩ | ⟨a, len, cap, elems, rest, n, _, h1, _, _, h2, h3, h4, h5, h6, _⟩
  · have : ob0 = none ∧ l0 = 0 ∧ c0 = 0 := by simpa [Value.cells] using h1
    obtain ⟨rfl, rfl, rfl⟩ := this
    exact ⟨[], ⟨⟨none, 0, rfl, Nat.le_refl _, fun _ => rfl, fun a ha => (by cases ha)⟩, ⟨fun x hx => (by cases hx), by show 0 ≤ _; decide⟩⟩⟩
  · have : ob0 = some a ∧ l0 = len ∧ c0 = cap := by simpa [Value.cells] using h1
    obtain ⟨rfl, rfl, rfl⟩ := this
    rw [hN.cells] at h5 h6
    have hel : ∀ i, i < l0 → ∃ nd : Node, nd.kids ≤ 9223372036854775807 ∧ ∀ (j : Nat) v, (nd.cells)[j]? = some v → w.cell? ((a.add (i * 6)).add j) = some v := by
      intro i hi
      have g := h5 i hi
      have hlt : i < elems.length := by rw [h4]; exact hi
      rw [List.getElem?_eq_getElem hlt] at g
      obtain ⟨cs, hcs, hx⟩ := Option.bind_eq_some_iff.1 g
      obtain ⟨nd, rfl, hk⟩ := read_node hN hx
      exact ⟨nd, hk, (cells_get hcs).2⟩
    have hspot : 0 < c0 → a.spot = none := by
      intro hc
      have key : ∀ cs, w.cells? 0 (a.add (0 * 6)) 6 = some cs → a.spot = none := by
        intro cs hcs
        obtain ⟨hl, hg⟩ := cells_get hcs
        have h0 : 0 < cs.length := by omega
        have := (cell_spot (hg 0 cs[0] (List.getElem?_eq_getElem h0))).1
        simpa [Addr.add] using this
      by_cases hl : 0 < l0
      · have g := h5 0 hl
        have hlt : 0 < elems.length := by omega
        rw [List.getElem?_eq_getElem hlt] at g
        obtain ⟨cs, hcs, _⟩ := Option.bind_eq_some_iff.1 g
        exact key cs hcs
      · have hz : l0 = 0 := by omega
        subst hz
        obtain ⟨hr1, hr2⟩ := h6 rfl
        have g := hr2 0 (by omega)
        have hlt : 0 < rest.length := by omega
        rw [List.getElem?_eq_getElem hlt] at g
        obtain ⟨cs, hcs, _⟩ := Option.bind_eq_some_iff.1 g
        exact key cs hcs
    obtain ⟨ts, hts1, hts2⟩ := list_of l0 hel
    subst hts1
    refine ⟨ts, ⟨⟨some a, c0, rfl, h2, fun h => (by cases h), fun a' ha => ?_⟩, ⟨fun x hx => ?_, ?_⟩⟩⟩
    · cases ha
      refine ⟨hspot, fun i hi j v hj => ?_⟩
      have := (cell_spot ((hts2 i hi).2 j v hj)).2
      have e : ∀ (x y : Nat), (a.add x).add y = ⟨a.block, a.off + x + y, (((a.add x).add y)).spot⟩ := by
        intro x y
        unfold Addr.add
        by_cases hx : x = 0
        · by_cases hy : y = 0
          · simp [hx, hy]
          · simp [hx, hy]
        · by_cases hy : y = 0
          · simp [hx, hy]
          · simp [hx, hy]
      rw [e] at this
      exact this
    · obtain ⟨i, hi, rfl⟩ := List.getElem_of_mem hx
      exact (hts2 i hi).1
    · have : maxLen = 9223372036854775807 := by decide
      rw [this] at h3; omega
end
end Go.Proofs.YtfonnebpnobomaaDoor.W
namespace Go.Proofs.YtfonnebpnobomaaDoor.W
open Go Am code
set_option maxRecDepth 100000
set_option maxHeartbeats 4000000
set_option linter.unusedSimpArgs false
set_option linter.unusedVariables false
theorem firstT_eq : firstT = (firstN.map fun (k : Nat) => (k : Int)).map fun z => Value.int .u8 z := by unfold firstT; rw [List.map_map]; rfl
theorem tab_flat (l : List Nat) : ∀ v ∈ l.map (fun k => U8 (k : Nat)), flat0 v = true := fun v hv => by obtain ⟨k, _, rfl⟩ := List.mem_map.1 hv; rfl
theorem firstT_ne : firstT ≠ [] := by
  intro h
  have := congrArg List.length h
  unfold firstT at this
  rw [List.length_map, first_len] at this
  cases this
theorem accT_ne : accT ≠ [] := by decide
/-- the table of ranges, as a datum -/
def accD {D : Type} : DataW D := .agg ((List.range 16).map fun i => .agg [.lit (.int .u8 ((accN.getD (2 * i) 0 : Nat) : Int)), .lit (.int .u8 ((accN.getD (2 * i + 1) 0 : Nat) : Int))])
structure TabT (P : Program) : Prop where
  g0 : P.globalNamed "unicode/utf8.first" = some 0
  g1 : P.globalNamed "unicode/utf8.acceptRanges" = some 1
  first : ∃ t e, (P.globals[0]?).map (·.type) = some t ∧ P.underlying t = some (.array 256 e) ∧ P.underlying e = some (.int .u8) ∧ P.cellsOf e = 1 ∧ P.cellsOf t = 256
  acc : ∃ t e f0 f1, (P.globals[1]?).map (·.type) = some t ∧ P.underlying t = some (.array 16 e) ∧ P.underlying e = some (.struct #[f0, f1]) ∧ P.cellsOf e = 2 ∧ P.cellsOf t = 32 ∧ f0.offset = 0 ∧ f1.offset = 1 ∧ P.cellsOf f0.type = 1 ∧ P.cellsOf f1.type = 1 ∧ P.underlying f0.type = some (.int .u8) ∧ P.underlying f1.type = some (.int .u8)
theorem acc_cells {D : Type} {enc : TypeId × Value → D} {P : Program} {w : World} {base : Nat} {sp : Nat → Bool} {held : Bool} {fuel : Nat} {t e : TypeId} {f0 f1 : Field} {cs : List Value} {p : List MemPlace} (ht : P.underlying t = some (.array 16 e)) (he : P.underlying e = some (.struct #[f0, f1])) (hce : P.cellsOf e = 2) (hct : P.cellsOf t = 32)
    (o0 : f0.offset = 0) (o1 : f1.offset = 1) (c0 : P.cellsOf f0.type = 1) (c1 : P.cellsOf f1.type = 1) (u0 : P.underlying f0.type = some (.int .u8)) (u1 : P.underlying f1.type = some (.int .u8))
    (h : DataW.trod enc P w base sp held fuel t cs = some (accD, p)) : cs = accT := by
  obtain ⟨xs, n, hx, hl, hxl, hget⟩ : ∃ (xs : List (DataW D × List MemPlace)) (n : Nat), (accD, p) = (DataW.agg (xs.map (·.1)), xs.flatMap (·.2)) ∧ cs.length = 32 ∧ xs.length = 16 ∧ ∀ i, i < 16 → DataW.trod enc P w base sp held n e ((cs.drop (i * 2)).take 2) = xs[i]? := by
    cases fuel with
    | zero => simp [DataW.trod] at h
    | succ n =>
      simp only [DataW.trod, ht, hce, hct] at h
      split at h
      · rename_i hl
        obtain ⟨xs, hm, hx⟩ := Option.map_eq_some_iff.1 h
        exact ⟨xs, n, hx.symm, hl, by simpa using mapM_some_length hm, fun i hi => mapM_some_get hm i i (by simp [hi])⟩
      · cases h
  have hxs : xs.map (·.1) = (List.range 16).map fun i => DataW.agg [.lit (.int .u8 ((accN.getD (2 * i) 0 : Nat) : Int)), .lit (.int .u8 ((accN.getD (2 * i + 1) 0 : Nat) : Int))] := by
    have := congrArg Prod.fst hx
    simp only [accD, DataW.agg.injEq] at this
    exact this.symm
  have pair : ∀ i, i < 16 → cs[i * 2]? = some (U8 ((accN.getD (2 * i) 0 : Nat) : Int)) ∧ cs[i * 2 + 1]? = some (U8 ((accN.getD (2 * i + 1) 0 : Nat) : Int)) := by
    intro i hi
    have hlt : i < xs.length := by rw [hxl]; exact hi
    have g := hget i hi
    rw [List.getElem?_eq_getElem hlt] at g
    have hd : (xs[i]).1 = DataW.agg [.lit (.int .u8 ((accN.getD (2 * i) 0 : Nat) : Int)), .lit (.int .u8 ((accN.getD (2 * i + 1) 0 : Nat) : Int))] := by
      have : (xs.map (·.1))[i]? = _ := congrArg (·[i]?) hxs
      simp [hlt, hi] at this
      exact this
    obtain ⟨ys, m, _, e1, e2, e3, e4⟩ := DataW.trod_struct he g
    rw [e1] at hd
    simp only [DataW.agg.injEq] at hd
    have e3' : ys.length = 2 := e3
    match ys, e3' with
    | [y0, y1], _ =>
      simp at hd
      have g0 := e4 0 f0 rfl
      have g1 := e4 1 f1 rfl
      rw [o0, c0] at g0
      rw [o1, c1] at g1
      obtain ⟨k0, a0, b0, _⟩ := DataW.trod_int u0 g0
      obtain ⟨k1, a1, b1, _⟩ := DataW.trod_int u1 g1
      have hk0 : k0 = ((accN.getD (2 * i) 0 : Nat) : Int) := by
        have := hd.1; rw [b0] at this; simpa using this
      have hk1 : k1 = ((accN.getD (2 * i + 1) 0 : Nat) : Int) := by
        have := hd.2; rw [b1] at this; simpa using this
      have q0 := congrArg (·[0]?) a0
      have q1 := congrArg (·[0]?) a1
      simp [List.getElem?_take, List.getElem?_drop] at q0 q1
      rw [hk0] at q0; rw [hk1] at q1
      exact ⟨by simpa using q0, by simpa using q1⟩
  apply List.ext_getElem?
  intro i
  by_cases hi : i < 32
  · obtain ⟨h1, h2⟩ := pair (i / 2) (by omega)
    have hacc : accT[i]? = some (U8 ((accN.getD i 0 : Nat) : Int)) := by
      unfold accT
      have : i < accN.length := hi
      rw [List.getElem?_map, List.getElem?_eq_getElem this]
      simp [List.getD, this]
    rw [hacc]
    rcases Nat.mod_two_eq_zero_or_one i with h | h
    · rw [show i / 2 * 2 = i by omega, show 2 * (i / 2) = i by omega] at h1; exact h1
    · rw [show i / 2 * 2 + 1 = i by omega, show 2 * (i / 2) + 1 = i by omega] at h2; exact h2
  · rw [List.getElem?_eq_none (by omega), List.getElem?_eq_none (by show accT.length ≤ i; have : accT.length = 32 := by decide
                                                                    omega)]
theorem tabW_of_laid {P : Program} (hT : TabT P) {W : World} {d0 d1 : DataW Unit} (h0 : d0 = Lib.tabData .u8 (firstN.map fun (k : Nat) => (k : Int))) (h1 : d1 = accD) (h : laidMet P [("unicode/utf8.acceptRanges", d1), ("unicode/utf8.first", d0)] W) : TabW firstT accT W := by
  obtain ⟨ps, ⟨g1, t1, cs1, fuel1, p1, q1, a1, a2, a3, a4, ⟨g0, t0, cs0, fuel0, p0, q0, b1, b2, b3, b4, _, _⟩, _⟩, _⟩ := h
  obtain rfl := Option.some.inj (hT.g1.symm.trans a1)
  obtain rfl := Option.some.inj (hT.g0.symm.trans b1)
  obtain ⟨t0', e0, x1, x2, x3, x4, x5⟩ := hT.first
  obtain rfl := Option.some.inj (x1.symm.trans b2)
  obtain ⟨t1', e1, f0, f1, y1, y2, y3, y4, y5, y6, y7, y8, y9, y10, y11⟩ := hT.acc
  obtain rfl := Option.some.inj (y1.symm.trans a2)
  rw [h0] at b4
  rw [h1] at a4
  have hc0 := Lib.cells_of_tab x2 x3 x4 x5 b4
  have hc1 := acc_cells y2 y3 y4 y5 y6 y7 y8 y9 y10 y11 a4
  rw [← firstT_eq] at hc0
  refine ⟨fun i v hv => ⟨tab_flat _ v (List.mem_of_getElem? hv), ?_⟩, fun i v hv => ⟨tab_flat _ v (List.mem_of_getElem? hv), ?_⟩⟩
  · have hi : i < cs0.size := by rw [← Array.length_toList, hc0]; exact (List.getElem?_eq_some_iff.1 hv).1
    rw [World.var?_cell hT.g0 b3 i]
    have : cs0.toList[i]? = some v := by rw [hc0]; exact hv
    simpa using this
  · have hi : i < cs1.size := by rw [← Array.length_toList, hc1]; exact (List.getElem?_eq_some_iff.1 hv).1
    rw [World.var?_cell hT.g1 a3 i]
    have : cs1.toList[i]? = some v := by rw [hc1]; exact hv
    simpa using this
end Go.Proofs.YtfonnebpnobomaaDoor.W
