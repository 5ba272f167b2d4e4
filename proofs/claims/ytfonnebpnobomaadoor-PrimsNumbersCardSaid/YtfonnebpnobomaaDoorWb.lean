/- What the functions of the program come to, one for one, from any memory. By an AI agent. No person has read it. -/
import Derived.Test.YtfonnebpnobomaaDoorWa
namespace Go.Proofs.YtfonnebpnobomaaDoor.W
open Go Am code
set_option maxRecDepth 100000
set_option maxHeartbeats 4000000
set_option linter.unusedSimpArgs false
set_option linter.unusedVariables false
variable {E : Env} (hE : Has E)
variable (symB : ByteArray → Bool)

theorem check_ok {t : List Node} {named : Bool} (h : (check symB t named).2 = 0) : Whole t ∧ (∀ x ∈ t, 0 ≤ x.kids) ∧ (∀ x ∈ t, rangeBad x = false) ∧ t.length ≤ 2000 := by
  unfold check at h
  split at h
  · cases h
  · rename_i h0
    split at h
    · cases h
    · rename_i h1
      split at h
      · rename_i r hr
        exfalso
        have key : ∀ (u : List Node) (i : Nat) (st : List Int) (r : Nat × Int), chkGo symB named u i st = .inl r → r.2 ≠ 0 := by
          intro u
          induction u with
          | nil => intro i st r h; cases h
          | cons x u ih =>
            intro i st r h
            simp only [chkGo] at h
            split at h
            · cases h; simp
            · split at h
              · cases h; simp
              · split at h
                · cases h; simp
                · split at h
                  · cases h; simp
                  · split at h
                    · rename_i hn; cases h; exact hn
                    · exact ih _ _ _ h
        exact key _ _ _ _ hr h
      · rename_i st hst
        by_cases hm : maxL st.reverse > 0
        · rw [if_pos hm] at h; cases h
        · obtain ⟨g1, g2, g3⟩ := chk_whole symB named hst hm
          exact ⟨g1, g2, g3, by omega⟩
theorem form_ok {t : List Node} (h : (form symB t).2 = 0) : Whole t ∧ (∀ x ∈ t, 0 ≤ x.kids) ∧ (∀ x ∈ t, rangeBad x = false) ∧ t.length ≤ 2000 := by
  unfold form at h
  split at h
  · rename_i h1; exact check_ok symB h1
  · exact check_ok symB h
theorem place_ok {t : List Node} {i : Int} (h : place symB t i = 0) : (form symB t).2 = 0 ∧ 0 ≤ i ∧ i < t.length := by
  unfold place at h
  split at h
  · rename_i h1; exact absurd h h1
  · rename_i h1
    split at h
    · cases h
    · exact ⟨Decidable.not_not.1 h1, by omega, by omega⟩
/-- a part of a term -/
def subT (t : List Node) (i : Nat) : List Node := (t.drop i).take (sizeAt t i)
def subR (t : List Node) (i : Nat) : List Node × Int := if place symB t i ≠ 0 then ([], place symB t i) else (subT t i, 0)

include hE in
theorem Sub_spec {t : List Node} (hsym : SymsOK E symB t) (ht : TermOK t) (i : Nat) (H : Hp) (ob : Option Addr) (cap : Nat) (hcap : t.length ≤ cap) (hsl : SlE H 6 ob (t.map Node.cells)) : Sc E 53 [.slice ob t.length cap, I64 (i : Nat)] H [] fun v M => ∃ w, v = .tuple ⟨[w, I64 (subR symB t i).2]⟩ ∧ NewL w (subR symB t i).1 M := by
  refine sc_body hE.h53 rfl ?_
  show Ss E _ _ _ c53.body _ _ _
  unfold c53
  refine s_seq ?_
  refine s_ops ?_
  refine o_mov rfl rfl ?_
  refine o_mov rfl rfl ?_
  refine o_nil ?_
  refine sSeq_normal ?_
  refine s_seq ?_
  refine s_seq ?_
  refine s_ops ?_
  refine o_mov rfl rfl ?_
  refine o_mov rfl rfl ?_
  refine o_call0 (v := I64 (place symB t i)) rfl (ha2 rfl rfl) rfl (fun H1 hH1 => place_spec hE symB hsym ht i H1 ob cap (hsl.mono hH1 (fun _ _ h => (by cases h)))) ?_
  refine o_mov rfl rfl ?_
  refine o_nil ?_
  refine sSeq_normal ?_
  refine s_seq ?_
  refine s_ops ?_
  refine o_mov rfl rfl ?_
  refine o_bin rfl rfl rfl rfl ?_
  refine o_nil ?_
  refine sSeq_normal ?_
  refine s_cond rfl (fun hc0 => ?_) (fun hc0 => ?_)
  · have hc : place symB t i ≠ 0 := by simpa using hc0
    have hres : subR symB t i = ([], place symB t i) := by unfold subR; rw [if_pos hc]
    refine s_seq ?_
    refine s_ops ?_
    refine o_mov rfl rfl ?_
    refine o_mov rfl rfl ?_
    refine o_mov rfl rfl ?_
    refine o_nil ?_
    refine sSeq_normal ?_
    refine s_ret ?_
    refine sSeq_ret ?_
    refine sRet_ret [_, _] ⟨rfl, rfl, trivial⟩ ?_
    rw [hres]
    first | exact ⟨_, rfl, .inl ⟨rfl, rfl⟩⟩ | exact ⟨_, rfl, hnew.mono (fun x hx => List.mem_append_left _ hx)⟩
  · have hc : ¬ place symB t i ≠ 0 := by simpa using hc0
    have hres : subR symB t i = (subT t i, 0) := by unfold subR; rw [if_neg hc]
    obtain ⟨hf, _, hi0⟩ := place_ok symB (Decidable.not_not.1 hc)
    have hi : i < t.length := by omega
    obtain ⟨hwh, hk0, hrb, hl2⟩ := form_ok symB hf
    obtain ⟨w1, w2, w3⟩ := hwh.at hi
    obtain ⟨a, rfl⟩ : ∃ a, ob = some a := Option.isSome_iff_exists.1 (hsl.get (i := i) (by simpa using hi)).1
    refine s_skip ?_
    refine sSeq_normal ?_
    refine s_seq ?_
    refine s_ops ?_
    refine o_mov rfl rfl ?_
    refine o_mov rfl rfl ?_
    refine o_mov rfl rfl ?_
    refine o_call1 rfl (ha1 rfl) rfl (fun H1 hH1 => (ends_spec hE hwh (by omega) hk0 H1 (some a) cap (hsl.mono hH1 (fun _ _ h => (by cases h)))).mono ?_)
    rintro v M1 ⟨be, rfl, hbe⟩
    refine So.weakM (M' := [(be, .row ((endsL t).map I64) true)]) ?_ (by rw [List.append_nil]; exact List.singleton_sublist.2 hbe)
    refine o_mov rfl rfl ?_
    refine o_iad rfl rfl hi rfl rfl ?_
    refine o_ld1 (v := I64 (endAt t i : Nat)) rfl (.head _) (by show ((endsL t).map I64)[0 + i * 1]? = _; simp [endsL, hi]) rfl ?_
    refine o_slSub rfl rfl rfl (by unfold endAt; omega) (by omega) rfl ?_
    refine o_call1 rfl (ha1 rfl) rfl (fun H1 hH1 => ?_)
    have hsub := hsl.sub (l := i) (m := endAt t i) (cap := cap) (by unfold endAt; omega) (by rw [List.length_map]; exact w3) (by rw [List.length_map]; exact hcap)
    have he : ((t.map Node.cells).drop i).take (endAt t i - i) = (subT t i).map Node.cells := by
      unfold subT endAt; rw [Nat.add_sub_cancel_left, ← List.map_drop, ← List.map_take]
    rw [he] at hsub
    have hln : (subT t i).length = endAt t i - i := by unfold subT endAt at *; rw [List.length_take, List.length_drop]; omega
    have := clone_spec hE (subT t i) (by omega) H1 (some (subAdr a i cap 6)) (cap - i) (hsub.mono hH1 (fun _ _ h => (by cases h)))
    rw [hln] at this
    refine this.mono ?_
    rintro v M2 hnew
    refine o_mov rfl rfl ?_
    refine o_mov rfl rfl ?_
    refine o_nil ?_
    refine sSeq_normal ?_
    refine s_ret ?_
    refine sRet_ret [_, _] ⟨rfl, rfl, trivial⟩ ?_
    rw [hres]
    first | exact ⟨_, rfl, .inl ⟨rfl, rfl⟩⟩ | exact ⟨_, rfl, hnew.mono (fun x hx => List.mem_append_left _ hx)⟩

end Go.Proofs.YtfonnebpnobomaaDoor.W
namespace Go.Proofs.YtfonnebpnobomaaDoor.W
open Go Am code
set_option maxRecDepth 100000
set_option maxHeartbeats 4000000
set_option linter.unusedSimpArgs false
set_option linter.unusedVariables false
variable {E : Env} (hE : Has E)
variable (symB : ByteArray → Bool)

/-- an argument: a slice of nodes -/
structure ArgIs (H : Hp) (sv : Value) (t : List Node) : Prop where
  is : ∃ ob cap, sv = .slice ob t.length cap ∧ t.length ≤ cap ∧ SlE H 6 ob (t.map Node.cells)
  ok : TermOK t
/-- the arguments of a primitive -/
structure ArgsIs (H : Hp) (oa : Option Addr) (svs : List Value) (ts : List (List Node)) : Prop where
  sl : SlE H 1 oa (svs.map fun v => [v])
  len : svs.length = ts.length
  each : ∀ (i : Nat) sv t, svs[i]? = some sv → ts[i]? = some t → ArgIs H sv t
theorem ArgIs.mono {H H1 : Hp} {sv : Value} {t : List Node} {M : Ms} (h : ArgIs H sv t) (h1 : St H [] H1 M) : ArgIs H1 sv t := by
  obtain ⟨ob, cap, e, g1, g2⟩ := h.is
  exact ⟨⟨ob, cap, e, g1, g2.mono h1 (fun _ _ => by simp)⟩, h.ok⟩
theorem ArgsIs.mono {H H1 : Hp} {oa : Option Addr} {svs : List Value} {ts : List (List Node)} {M : Ms} (h : ArgsIs H oa svs ts) (h1 : St H [] H1 M) : ArgsIs H1 oa svs ts :=
  ⟨h.sl.mono h1 (fun _ _ => by simp), h.len, fun i sv t a b => (h.each i sv t a b).mono h1⟩
theorem ArgsIs.at {H : Hp} {oa : Option Addr} {svs : List Value} {ts : List (List Node)} (h : ArgsIs H oa svs ts) {i : Nat} {t : List Node} (hi : ts[i]? = some t) : ∃ ob cap, oa.isSome = true ∧ (adr oa 1 i).block < H.size ∧ i < svs.length ∧ H.cell? (adr oa 1 i) = some (.slice ob t.length cap) ∧ t.length ≤ cap ∧ SlE H 6 ob (t.map Node.cells) ∧ TermOK t := by
  have hl : i < ts.length := (List.getElem?_eq_some_iff.1 hi).1
  have hl2 : i < svs.length := by rw [h.len]; exact hl
  have ha := h.each i svs[i] t (List.getElem?_eq_getElem hl2) hi
  obtain ⟨ob, cap, e, g1, g2⟩ := ha.is
  have hm : i < (svs.map fun v => [v]).length := by simpa using hl2
  have hg := h.sl.get hm
  have hc := h.sl.cell (i := i) (j := 0) (v := svs[i]) hm (by simp)
  rw [e] at hc
  exact ⟨ob, cap, hg.1, hg.2.1, hl2, hc, g1, g2, ha.ok⟩
def partT (t : List Node) (second : Bool) : List Node := if second then t.drop (1 + (subR symB t 1).1.length) else (subR symB t 1).1
def partR (t : List Node) (second : Bool) : List Node × Int × Int := match t[0]? with
  | some x => if x.kind ≠ 5 then ([], 0, 19) else (partT symB t second, 0, 0)
  | none => ([], 0, 0)
theorem newL_len {w : Value} {t : List Node} {M : Ms} (h : NewL w t M) : ∃ ob cap, w = .slice ob t.length cap := by
  rcases h with ⟨rfl, rfl⟩ | ⟨b, sp, cap, row, rfl, _⟩
  · exact ⟨none, 0, rfl⟩
  · exact ⟨_, cap, rfl⟩

include hE in
theorem part_spec {t : List Node} (hsym : SymsOK E symB t) (hp : 0 < t.length) (hbig : t.length ≤ 1000000) (hsub1 : 1 + (subR symB t 1).1.length ≤ t.length) (a b : Int) (second : Bool) (H : Hp) (oa : Option Addr) (na ca : Nat) (hna : 0 < na) (svs : List Value) (ts : List (List Node)) (hargs : ArgsIs H oa svs ts) (h0 : ts[0]? = some t) : Sc E 38 [.agg ⟨[.slice oa na ca, I64 a, I64 b]⟩, .bool second] H [] fun v M => ResIs v (partR symB t second) M := by
  obtain ⟨ob, cap, g1, g2, g3, g4, hcap, hsl, ht⟩ := hargs.at h0
  have hg := hsl.get (i := 0) (by simpa using hp)
  have hcell : H.cell? ⟨(adr ob 6 0).block, (adr ob 6 0).off + 0, none⟩ = some (I64 t[0].kind) := hsl.cell (i := 0) (j := 0) (by simpa using hp) (by simp [Node.cells])
  obtain ⟨a0, rfl⟩ : ∃ a0, ob = some a0 := Option.isSome_iff_exists.1 hg.1
  refine sc_body hE.h38 rfl ?_
  show Ss E _ _ _ c38.body _ _ _
  unfold c38
  refine s_seq ?_
  refine s_ops ?_
  refine o_box (c := [.slice oa na ca, I64 a, I64 b]) rfl rfl rfl (fun b0 => ?_)
  refine o_newz rfl (fun b1 => ?_)
  refine o_nil ?_
  refine sSeq_normal ?_
  refine s_seq ?_
  refine s_ops ?_
  refine o_fad rfl rfl ?_
  refine o_ld1 rfl (by first | exact .head _ | exact .tail _ (.head _) | exact .tail _ (.tail _ (.head _)) | exact .tail _ (.tail _ (.tail _ (.head _))) | exact .tail _ (.tail _ (.tail _ (.tail _ (.head _))))) rfl rfl ?_
  refine o_iad (i := 0) rfl rfl hna g1 rfl ?_
  refine o_ld1_old rfl g2 (by simp) g4 rfl ?_
  refine o_mov rfl rfl ?_
  refine o_nil ?_
  refine sSeq_normal ?_
  refine s_seq ?_
  refine s_seq ?_
  refine s_ops ?_
  refine o_mov rfl rfl ?_
  refine o_iad (i := 0) rfl rfl hp rfl rfl ?_
  refine o_fad rfl rfl ?_
  refine o_ld1_old rfl hg.2.1 (by simp) hcell rfl ?_
  refine o_bin rfl rfl rfl rfl ?_
  refine o_nil ?_
  refine sSeq_normal ?_
  refine s_cond rfl (fun hc0 => ?_) (fun hc0 => ?_)
  · have hk : t[0].kind ≠ 5 := by simpa using hc0
    have hres : partR symB t second = ([], 0, 19) := by unfold partR; rw [List.getElem?_eq_getElem hp]; exact if_pos hk
    refine s_seq ?_
    refine s_ops ?_
    refine o_agg (c := [.slice none 0 0, I64 0, I64 19]) (fun F hF => rfl) rfl ?_
    refine o_stN (M1 := []) (cn := [.slice none 0 0, I64 0, I64 19]) rfl rfl rfl rfl (by show 0 + 3 ≤ 3; exact Nat.le_refl _) rfl rfl ?_
    refine o_nil ?_
    refine sSeq_normal ?_
    refine s_ret ?_
    refine sSeq_ret ?_
    first | refine sRet_ret [_] ⟨⟨_, _, _, rfl, .head _, Nat.le_of_ble_eq_true rfl, rfl⟩, trivial⟩ ?_ | refine sRet_ret [_] ⟨⟨_, _, _, rfl, List.mem_append_right _ (.head _), Nat.le_refl _, rfl⟩, trivial⟩ ?_
    rw [hres]
    first | exact ⟨_, rfl, .inl ⟨rfl, rfl⟩⟩ | exact ⟨rv, rfl, hnew.mono (fun x hx => List.mem_append_left _ hx)⟩
  · have hk : ¬ t[0].kind ≠ 5 := by simpa using hc0
    have hres : partR symB t second = (partT symB t second, 0, 0) := by unfold partR; rw [List.getElem?_eq_getElem hp]; exact if_neg hk
    refine s_skip ?_
    refine sSeq_normal ?_
    refine s_seq ?_
    refine s_ops ?_
    refine o_mov rfl rfl ?_
    refine o_call1 rfl (ha2 rfl rfl) rfl (fun H1 hH1 => (Sub_spec hE symB hsym ht 1 H1 (some a0) cap hcap (hsl.mono hH1 (fun _ _ h => (by cases h)))).mono ?_)
    rintro v M1 ⟨w, rfl, hw⟩
    obtain ⟨ow, cw, hwe⟩ := newL_len hw
    refine o_mov rfl rfl ?_
    refine o_ext rfl rfl rfl ?_
    refine o_ext rfl rfl rfl ?_
    refine o_mov rfl rfl ?_
    refine o_mov rfl rfl ?_
    refine o_nil ?_
    refine sSeq_normal ?_
    refine s_mid (α := Value × Ms) (fun z => [(4, .pointer (some ⟨b1, 0, none⟩)), (6, z.1)]) (fun z => z.2 ++ [(b1, .row [.slice none 0 0, I64 0, I64 0] true), (b0, .row [.slice oa na ca, I64 a, I64 b] true)]) (fun z => NewL z.1 (partT symB t second) z.2) ?_ ?_
    · skip
      refine s_seq ?_
      refine s_ops ?_
      refine o_mov rfl rfl ?_
      refine o_nil ?_
      refine sSeq_normal ?_
      refine s_cond rfl (fun hc1 => ?_) (fun hc1 => ?_)
      · have hs : second = true := hc1
        rw [hwe]
        refine s_ops ?_
        refine o_mov rfl rfl ?_
        refine o_mov rfl rfl ?_
        refine o_lnl rfl rfl ?_
        refine o_bin (v := I64 (1 + (subR symB t 1).1.length : Nat)) rfl rfl (by simp only [binV, binInt, if_true]; rw [wrap64 (by omega) (by omega), Int.natCast_add]; rfl) rfl ?_
        refine o_slFrom rfl rfl hsub1 hcap rfl ?_
        refine o_call1 rfl (ha1 rfl) rfl (fun H1 hH1 => ?_)
        have hsb := hsl.sub (l := 1 + (subR symB t 1).1.length) (m := t.length) (cap := cap) hsub1 (by rw [List.length_map]; exact Nat.le_refl _) (by rw [List.length_map]; exact hcap)
        have he : ((t.map Node.cells).drop (1 + (subR symB t 1).1.length)).take (t.length - (1 + (subR symB t 1).1.length)) = (t.drop (1 + (subR symB t 1).1.length)).map Node.cells := by
          rw [← List.map_drop, List.take_of_length_le (by rw [List.length_map, List.length_drop]; exact Nat.le_refl _)]
        rw [he] at hsb
        have := clone_spec hE (t.drop (1 + (subR symB t 1).1.length)) (by rw [List.length_drop]; omega) H1 _ (cap - (1 + (subR symB t 1).1.length)) (hsb.mono hH1 (fun _ _ h => (by cases h)))
        rw [List.length_drop] at this
        refine this.mono ?_
        rintro v M2 hnew
        refine o_mov rfl rfl ?_
        refine o_nil ?_
        first | exact sMid_normal (_, M2 ++ M1) (subCons rfl (subCons rfl subNil)) (by rw [List.append_assoc]; exact .refl _) (by subst hs; exact hnew.mono (fun x hx => List.mem_append_left _ hx)) | exact sMid_normal (w, M1) (subCons rfl (subCons rfl subNil)) (.refl _) (by subst hs; exact hw)
      · have hs : second = false := hc1
        refine s_skip ?_
        first | exact sMid_normal (_, M2 ++ M1) (subCons rfl (subCons rfl subNil)) (by rw [List.append_assoc]; exact .refl _) (by subst hs; exact hnew.mono (fun x hx => List.mem_append_left _ hx)) | exact sMid_normal (w, M1) (subCons rfl (subCons rfl subNil)) (.refl _) (by subst hs; exact hw)
    · rintro ⟨rv, Mn⟩ hnew
      dsimp only at hnew ⊢
      refine s_seq ?_
      refine s_ops ?_
      refine o_mov rfl rfl ?_
      refine o_agg (c := [rv, I64 0, I64 0]) (fun F hF => by simp only [List.map, hF.ev (x := .tmp 30) rfl]; rcases hnew with ⟨h, _⟩ | ⟨_, _, _, _, h, _⟩ <;> rw [h] <;> rfl) rfl ?_
      refine o_stN (M1 := Mn) (M2 := [(b0, .row [.slice oa na ca, I64 a, I64 b] true)]) (cn := [rv, I64 0, I64 0]) rfl rfl rfl rfl (by show 0 + 3 ≤ 3; exact Nat.le_refl _) (by rcases hnew with ⟨h, _⟩ | ⟨_, _, _, _, h, _⟩ <;> rw [h] <;> rfl) rfl ?_
      refine o_nil ?_
      refine sSeq_normal ?_
      refine s_ret ?_
      first | refine sRet_ret [_] ⟨⟨_, _, _, rfl, .head _, Nat.le_of_ble_eq_true rfl, rfl⟩, trivial⟩ ?_ | refine sRet_ret [_] ⟨⟨_, _, _, rfl, List.mem_append_right _ (.head _), Nat.le_refl _, rfl⟩, trivial⟩ ?_
      rw [hres]
      first | exact ⟨_, rfl, .inl ⟨rfl, rfl⟩⟩ | exact ⟨rv, rfl, hnew.mono (fun x hx => List.mem_append_left _ hx)⟩

end Go.Proofs.YtfonnebpnobomaaDoor.W
namespace Go.Proofs.YtfonnebpnobomaaDoor.W
open Go Am code
set_option maxRecDepth 100000
set_option maxHeartbeats 4000000
set_option linter.unusedSimpArgs false
set_option linter.unusedVariables false
variable {E : Env} (hE : Has E)

/-- the first argument that is no number -/
def notInt (ts : List (List Node)) : Nat → Nat → Int
  | 0, _ => -1
  | k + 1, i => match ts[i]? with
    | none => -1
    | some t => match t[0]? with
      | none => -1
      | some x => if x.kind ≠ 1 then i else notInt ts k (i + 1)

include hE in
theorem apply1_spec {t : List Node} (hp : 0 < t.length) (H : Hp) (ob : Option Addr) (cap : Nat) (hsl : SlE H 6 ob (t.map Node.cells)) : Sc E 21 [.slice ob t.length cap] H [] fun v _ => v = .bool (t[0].kind != 1) := by
  have hg := hsl.get (i := 0) (by simpa using hp)
  have hcell : H.cell? ⟨(adr ob 6 0).block, (adr ob 6 0).off + 0, none⟩ = some (I64 t[0].kind) := hsl.cell (i := 0) (j := 0) (by simpa using hp) (by simp [Node.cells])
  refine sc_body hE.h21 rfl ?_
  show Ss E _ _ _ c21.body _ _ _
  unfold c21
  refine s_seq ?_
  refine s_ops ?_
  refine o_mov rfl rfl ?_
  refine o_nil ?_
  refine sSeq_normal ?_
  refine s_seq ?_
  refine s_ops ?_
  refine o_mov rfl rfl ?_
  refine o_iad (i := 0) rfl rfl hp hg.1 rfl ?_
  refine o_fad rfl rfl ?_
  refine o_ld1_old rfl hg.2.1 (by simp) hcell rfl ?_
  refine o_bin rfl rfl rfl rfl ?_
  refine o_mov rfl rfl ?_
  refine o_nil ?_
  refine sSeq_normal ?_
  refine s_ret ?_
  refine sRet_ret [_] ⟨rfl, trivial⟩ ?_
  rfl

include hE in
theorem indexFunc_spec (H : Hp) (oa : Option Addr) (ca : Nat) (svs : List Value) (ts : List (List Node)) (hbig : ts.length ≤ 1000000) (hargs : ArgsIs H oa svs ts) (hpos : ∀ t ∈ ts, 0 < t.length) : Sc E 20 [.slice oa ts.length ca, .func (.func 21) #[] #[]] H [] fun v _ => v = I64 (notInt ts ts.length 0) := by
  refine sc_body hE.h20 rfl ?_
  show Ss E _ _ _ c20.body _ _ _
  unfold c20
  refine s_seq ?_
  refine s_ops ?_
  refine o_mov rfl rfl ?_
  refine o_nil ?_
  refine sSeq_normal ?_
  refine s_seq ?_
  refine s_seq ?_
  refine s_ops ?_
  refine o_mov rfl rfl ?_
  refine o_lnl rfl rfl ?_
  refine o_mov rfl rfl ?_
  refine o_nil ?_
  refine sSeq_normal ?_
  refine s_block ?_
  refine s_iter (α := Nat) (fun k => ts.length - k) (fun k => [(0, .slice oa ts.length ca), (1, .func (.func 21) #[] #[]), (7, I64 (ts.length : Nat)), (8, I64 (k : Nat))]) (fun _ => []) (fun k => k ≤ ts.length ∧ notInt ts (ts.length - k) k = notInt ts ts.length 0) 0 (subCons rfl (subCons rfl (subCons rfl (subCons rfl subNil)))) (List.nil_sublist _) ⟨Nat.zero_le _, rfl⟩ ?_
  rintro k ⟨hk, hr⟩
  refine s_seq ?_
  refine s_ops ?_
  refine o_bin rfl rfl rfl rfl ?_
  refine o_nil ?_
  refine sSeq_normal ?_
  refine s_seq ?_
  refine s_cond rfl (fun hc0 => ?_) (fun hc0 => ?_)
  · have hk2 : k < ts.length := by simp at hc0; exact hc0
    obtain ⟨t, ht⟩ : ∃ t, ts[k]? = some t := ⟨ts[k], List.getElem?_eq_getElem hk2⟩
    have hp : 0 < t.length := hpos t (List.mem_of_getElem? ht)
    obtain ⟨ob, cap, g1, g2, g3, g4, hcap, hsl, hok⟩ := hargs.at ht
    rw [show ts.length - k = (ts.length - (k + 1)) + 1 by omega] at hr
    simp only [notInt, ht, List.getElem?_eq_getElem hp] at hr
    refine s_skip ?_
    refine sSeq_normal ?_
    refine s_seq ?_
    refine s_block ?_
    refine s_seq ?_
    refine s_ops ?_
    refine o_mov rfl rfl ?_
    refine o_mov rfl rfl ?_
    refine o_nil ?_
    refine sSeq_normal ?_
    refine s_seq ?_
    refine s_ops ?_
    refine o_mov rfl rfl ?_
    refine o_mov rfl rfl ?_
    refine o_mov rfl rfl ?_
    refine o_iad rfl rfl hk2 g1 rfl ?_
    refine o_ld1_old rfl g2 (by simp) g4 rfl ?_
    refine o_call0 (v := .bool ((t[0]'hp).kind != 1)) rfl (ha1 rfl) rfl (fun H1 hH1 => apply1_spec hE hp H1 ob cap (hsl.mono hH1 (fun _ _ h => (by cases h)))) ?_
    refine o_nil ?_
    refine sSeq_normal ?_
    refine s_cond rfl (fun hc1 => ?_) (fun hc1 => ?_)
    · have hn : t[0].kind ≠ 1 := by simpa using hc1
      have hres : notInt ts ts.length 0 = (k : Int) := by rw [← hr, if_pos hn]
      refine s_seq ?_
      refine s_ops ?_
      refine o_mov rfl rfl ?_
      refine o_mov rfl rfl ?_
      refine o_nil ?_
      refine sSeq_normal ?_
      refine s_ret ?_
      refine sBlock_ret ?_
      refine sSeq_ret ?_
      refine sIter_ret ?_
      refine sBlock_ret ?_
      refine sSeq_ret ?_
      refine sRet_ret [_] ⟨rfl, trivial⟩ ?_
      show I64 _ = _
      rw [hres]
      first | rfl | done
    · have hn : ¬ t[0].kind ≠ 1 := by simpa using hc1
      rw [if_neg hn] at hr
      refine s_skip ?_
      refine sBlock_normal ?_
      refine sSeq_normal ?_
      refine s_ops ?_
      refine o_bin (v := I64 (k + 1 : Nat)) rfl rfl (by simp only [binV, binInt, if_true]; rw [wrap64 (by omega) (by omega)]; rfl) rfl ?_
      refine o_mov rfl rfl ?_
      refine o_nil ?_
      exact sIter_next (k + 1) (by omega) (subCons rfl (subCons rfl (subCons rfl (subCons rfl subNil)))) (List.nil_sublist _) ⟨hk2, hr⟩
  · have hk2 : k = ts.length := by simp at hc0; omega
    have hres : notInt ts ts.length 0 = -1 := by rw [← hr, hk2, Nat.sub_self]; rfl
    refine s_exit ?_
    refine sSeq_exit ?_
    refine sIter_exit ?_
    refine sBlock_exit ?_
    refine sSeq_normal ?_
    refine s_seq ?_
    refine s_ops ?_
    refine o_mov rfl rfl ?_
    refine o_nil ?_
    refine sSeq_normal ?_
    refine s_ret ?_
    refine sRet_ret [_] ⟨rfl, trivial⟩ ?_
    show I64 _ = _
    rw [hres]
    first | rfl | done

end Go.Proofs.YtfonnebpnobomaaDoor.W
namespace Go.Proofs.YtfonnebpnobomaaDoor.W
open Go Am code
set_option maxRecDepth 100000
set_option maxHeartbeats 4000000
set_option linter.unusedSimpArgs false
set_option linter.unusedVariables false
variable {E : Env} (hE : Has E)

def fnV (f : FuncId) : Value := .func (.func f) #[] #[]
def entry (nm : List UInt8) (many : Int) (num : Bool) (f : Value) : List Value := [.string ⟨⟨nm⟩⟩, I64 many, .bool num, f]
def isFn (bk : Nat) : Value := .func (.func 27) #[] #[.pointer (some ⟨bk, 0, none⟩)]
/-- the table of the primitives; the predicates' numbers lie in six blocks -/
def table (k1 k2 k3 k4 k5 k6 : Nat) : List (List Value) := [
  entry [43] 2 true (fnV 29), entry [45] 2 true (fnV 30), entry [42] 2 true (fnV 31),
  entry [113, 117, 111, 116, 105, 101, 110, 116] 2 true (fnV 32), entry [114, 101, 109, 97, 105, 110, 100, 101, 114] 2 true (fnV 33),
  entry [61] 2 true (fnV 34), entry [60] 2 true (fnV 35), entry [99, 111, 110, 115] 2 false (fnV 36),
  entry [99, 97, 114] 1 false (fnV 37), entry [99, 100, 114] 1 false (fnV 39),
  entry [110, 117, 108, 108, 63] 1 false (isFn k1), entry [112, 97, 105, 114, 63] 1 false (isFn k2), entry [110, 117, 109, 98, 101, 114, 63] 1 false (isFn k3), entry [98, 111, 111, 108, 101, 97, 110, 63] 1 false (isFn k4),
  entry [115, 121, 109, 98, 111, 108, 63] 1 false (isFn k5), entry [112, 114, 111, 99, 101, 100, 117, 114, 101, 63] 1 false (isFn k6),
  entry [101, 113, 63] 2 false (fnV 40), entry [110, 111, 116] 1 false (fnV 41)]

include hE in
theorem mkIs_spec (nm : List UInt8) (k : Int) (H : Hp) : Sc E 26 [.string ⟨⟨nm⟩⟩, I64 k] H [] fun v M => ∃ bk, v = .agg ⟨entry nm 1 false (isFn bk)⟩ ∧ (bk, .row [I64 k] true) ∈ M := by
  refine sc_body hE.h26 rfl ?_
  show Ss E _ _ _ c26.body _ _ _
  unfold c26
  refine s_seq ?_
  refine s_ops ?_
  refine o_box (c := [I64 k]) rfl rfl rfl (fun b0 => ?_)
  refine o_newz rfl (fun b1 => ?_)
  refine o_nil ?_
  refine sSeq_normal ?_
  refine s_seq ?_
  refine s_ops ?_
  refine o_mov rfl rfl ?_
  refine o_fn (c := [.pointer (some ⟨b0, 0, none⟩)]) ha0 (ha1 rfl) rfl ?_
  refine o_agg (c := entry nm 1 false (isFn b0)) (fun F hF => by simp only [List.map, hF.ev (x := .tmp 5) rfl, hF.ev (x := .tmp 6) rfl]; rfl) rfl ?_
  refine o_stN (M1 := []) (cn := entry nm 1 false (isFn b0)) rfl rfl rfl rfl (by show 0 + 4 ≤ 4; exact Nat.le_refl _) rfl rfl ?_
  refine o_nil ?_
  refine sSeq_normal ?_
  refine s_ret ?_
  refine sRet_ret [_] ⟨⟨_, _, _, rfl, (by first | exact .head _ | exact .tail _ (.head _) | exact .tail _ (.tail _ (.head _)) | exact .tail _ (.tail _ (.tail _ (.head _))) | exact .tail _ (.tail _ (.tail _ (.tail _ (.head _))))), Nat.le_of_ble_eq_true rfl, rfl⟩, trivial⟩ ?_
  exact ⟨b0, rfl, .tail _ (.head _)⟩

include hE in
theorem operations_spec (H : Hp) : Sc E 23 [] H [] fun v M => ∃ b k1 k2 k3 k4 k5 k6, v = .slice (some ⟨b, 0, some 0⟩) 18 18 ∧ (b, .row (table k1 k2 k3 k4 k5 k6).flatten true) ∈ M ∧ (k1, Blk.row [I64 4] true) ∈ M ∧ (k2, Blk.row [I64 5] true) ∈ M ∧ (k3, Blk.row [I64 1] true) ∈ M ∧ (k4, Blk.row [I64 2] true) ∈ M ∧ (k5, Blk.row [I64 3] true) ∈ M ∧ (k6, Blk.row [I64 6] true) ∈ M := by
  refine sc_body hE.h23 rfl ?_
  show Ss E _ _ _ c23.body _ _ _
  unfold c23
  refine s_seq ?_
  refine s_ops ?_
  refine o_mov rfl rfl ?_
  refine o_nil ?_
  refine sSeq_normal ?_
  refine s_seq ?_
  refine s_ops ?_
  refine o_mov rfl rfl ?_
  refine o_nil ?_
  refine sSeq_normal ?_
  refine s_seq ?_
  refine s_ops ?_
  refine o_agg (c := entry [43] 2 true (fnV 29)) (fun F hF => rfl) rfl ?_
  refine o_agg (c := entry [45] 2 true (fnV 30)) (fun F hF => rfl) rfl ?_
  refine o_agg (c := entry [42] 2 true (fnV 31)) (fun F hF => rfl) rfl ?_
  refine o_agg (c := entry [113, 117, 111, 116, 105, 101, 110, 116] 2 true (fnV 32)) (fun F hF => rfl) rfl ?_
  refine o_agg (c := entry [114, 101, 109, 97, 105, 110, 100, 101, 114] 2 true (fnV 33)) (fun F hF => rfl) rfl ?_
  refine o_agg (c := entry [61] 2 true (fnV 34)) (fun F hF => rfl) rfl ?_
  refine o_agg (c := entry [60] 2 true (fnV 35)) (fun F hF => rfl) rfl ?_
  refine o_agg (c := entry [99, 111, 110, 115] 2 false (fnV 36)) (fun F hF => rfl) rfl ?_
  refine o_agg (c := entry [99, 97, 114] 1 false (fnV 37)) (fun F hF => rfl) rfl ?_
  refine o_agg (c := entry [99, 100, 114] 1 false (fnV 39)) (fun F hF => rfl) rfl ?_
  refine o_mov rfl rfl ?_
  refine o_call1 rfl (ha2 rfl rfl) rfl (fun H1 hH1 => (mkIs_spec hE _ _ H1).mono ?_)
  rintro v M1 ⟨k1, rfl, hk1⟩
  refine o_mov rfl rfl ?_
  refine o_call1 rfl (ha2 rfl rfl) rfl (fun H2 hH2 => (mkIs_spec hE _ _ H2).mono ?_)
  rintro v M2 ⟨k2, rfl, hk2⟩
  refine o_mov rfl rfl ?_
  refine o_call1 rfl (ha2 rfl rfl) rfl (fun H3 hH3 => (mkIs_spec hE _ _ H3).mono ?_)
  rintro v M3 ⟨k3, rfl, hk3⟩
  refine o_mov rfl rfl ?_
  refine o_call1 rfl (ha2 rfl rfl) rfl (fun H4 hH4 => (mkIs_spec hE _ _ H4).mono ?_)
  rintro v M4 ⟨k4, rfl, hk4⟩
  refine o_mov rfl rfl ?_
  refine o_call1 rfl (ha2 rfl rfl) rfl (fun H5 hH5 => (mkIs_spec hE _ _ H5).mono ?_)
  rintro v M5 ⟨k5, rfl, hk5⟩
  refine o_mov rfl rfl ?_
  refine o_call1 rfl (ha2 rfl rfl) rfl (fun H6 hH6 => (mkIs_spec hE _ _ H6).mono ?_)
  rintro v M6 ⟨k6, rfl, hk6⟩
  refine o_agg (c := entry [101, 113, 63] 2 false (fnV 40)) (fun F hF => rfl) rfl ?_
  refine o_agg (c := entry [110, 111, 116] 1 false (fnV 41)) (fun F hF => rfl) rfl ?_
  refine o_lits (c := (table k1 k2 k3 k4 k5 k6).flatten) (fun F hF => by simp only [List.map, hF.ev (x := .tmp 2) rfl, hF.ev (x := .tmp 3) rfl, hF.ev (x := .tmp 4) rfl, hF.ev (x := .tmp 5) rfl, hF.ev (x := .tmp 6) rfl, hF.ev (x := .tmp 7) rfl, hF.ev (x := .tmp 8) rfl, hF.ev (x := .tmp 9) rfl, hF.ev (x := .tmp 10) rfl, hF.ev (x := .tmp 11) rfl, hF.ev (x := .tmp 13) rfl, hF.ev (x := .tmp 15) rfl, hF.ev (x := .tmp 17) rfl, hF.ev (x := .tmp 19) rfl, hF.ev (x := .tmp 21) rfl, hF.ev (x := .tmp 23) rfl, hF.ev (x := .tmp 24) rfl, hF.ev (x := .tmp 25) rfl]; rfl) rfl (fun b26 => ?_)
  refine o_mov rfl rfl ?_
  refine o_nil ?_
  refine sSeq_normal ?_
  refine s_ret ?_
  refine sRet_ret [_] ⟨rfl, trivial⟩ ?_
  exact ⟨b26, k1, k2, k3, k4, k5, k6, rfl, .head _, by simp [hk1], by simp [hk2], by simp [hk3], by simp [hk4], by simp [hk5], by simp [hk6]⟩

end Go.Proofs.YtfonnebpnobomaaDoor.W
namespace Go.Proofs.YtfonnebpnobomaaDoor.W
open Go Am code
set_option maxRecDepth 100000
set_option maxHeartbeats 4000000
set_option linter.unusedSimpArgs false
set_option linter.unusedVariables false
variable {E : Env} (hE : Has E)

def nameOf : List Value → ByteArray
  | .string s :: _ => s
  | _ => ⟨#[]⟩
def psT (T : List (List Value)) : List (ByteArray × Value) := T.map fun e => (nameOf e, .agg ⟨e⟩)
def names : List ByteArray := (table 0 0 0 0 0 0).map nameOf
theorem names_eq (k1 k2 k3 k4 k5 k6 : Nat) : (table k1 k2 k3 k4 k5 k6).map nameOf = names := rfl
theorem table_len (k1 k2 k3 k4 k5 k6 : Nat) : (table k1 k2 k3 k4 k5 k6).length = 18 := rfl
theorem table_form (k1 k2 k3 k4 k5 k6 : Nat) : ∀ e ∈ table k1 k2 k3 k4 k5 k6, ∃ nm m nb f, e = [.string nm, I64 m, .bool nb, f] ∧ oneCell f = true := by
  intro e he
  simp only [table, List.mem_cons, List.not_mem_nil, or_false] at he
  rcases he with rfl | rfl | rfl | rfl | rfl | rfl | rfl | rfl | rfl | rfl | rfl | rfl | rfl | rfl | rfl | rfl | rfl | rfl <;> exact ⟨_, _, _, _, rfl, rfl⟩
theorem names_apart : ∀ k : Fin 18, ((names.take k.1).all fun p => !(names[k.1]?.getD ⟨#[]⟩ == p)) = true := by decide +kernel
theorem lookP_none {s : ByteArray} : ∀ {ps : List (ByteArray × Value)}, (∀ p ∈ ps, (s == p.1) = false) → lookP s ps = none := by
  intro ps
  induction ps with
  | nil => intro _; rfl
  | cons p ps ih => intro h; unfold lookP; rw [h p (by simp)]; simp; exact ih fun p hp => h p (by simp [hp])
theorem table_new (k1 k2 k3 k4 k5 k6 : Nat) {k : Nat} (hk : k < 18) {nm : ByteArray} (hn : names[k]? = some nm) : lookP nm (psT ((table k1 k2 k3 k4 k5 k6).take k)) = none := by
  refine lookP_none fun p hp => ?_
  have h := names_apart ⟨k, hk⟩
  simp only [hn, Option.getD_some] at h
  have h2 : p.1 ∈ names.take k := by
    rw [← names_eq k1 k2 k3 k4 k5 k6, ← List.map_take]
    simp only [psT, List.mem_map] at hp ⊢
    obtain ⟨e, he, rfl⟩ := hp
    exact ⟨e, he, rfl⟩
  have := List.all_eq_true.1 h p.1 h2
  simpa using this
theorem lookP_mem {s : ByteArray} : ∀ {ps : List (ByteArray × Value)} {v : Value}, lookP s ps = some v → ∃ p ∈ ps, p.2 = v := by
  intro ps
  induction ps with
  | nil => intro v h; cases h
  | cons p ps ih =>
    intro v h
    unfold lookP at h
    split at h
    · cases h; exact ⟨p, by simp, rfl⟩
    · obtain ⟨q, h1, h2⟩ := ih h
      exact ⟨q, by simp [h1], h2⟩
theorem find_form (k1 k2 k3 k4 k5 k6 : Nat) (s : ByteArray) : ∃ nm m nb f, (lookP s (psT (table k1 k2 k3 k4 k5 k6))).getD (.agg ⟨[.string ⟨#[]⟩, I64 0, .bool false, .nilFunc]⟩) = .agg ⟨[.string nm, I64 m, .bool nb, f]⟩ ∧ oneCell f = true := by
  cases h : lookP s (psT (table k1 k2 k3 k4 k5 k6)) with
  | none => exact ⟨_, _, _, _, rfl, rfl⟩
  | some v =>
    obtain ⟨p, h1, h2⟩ := lookP_mem h
    simp only [psT, List.mem_map] at h1
    obtain ⟨e, he, rfl⟩ := h1
    obtain ⟨nm, m, nb, f, h3, h4⟩ := table_form k1 k2 k3 k4 k5 k6 e he
    refine ⟨nm, m, nb, f, ?_, h4⟩
    rw [Option.getD_some, ← h2, h3]
def findR (T : List (List Value)) (s : ByteArray) : Value := (lookP s (psT T)).getD (.agg ⟨[.string ⟨#[]⟩, I64 0, .bool false, .nilFunc]⟩)

include hE in
theorem find_spec (s : ByteArray) (H : Hp) : Sc E 18 [.string s] H [] fun v M => ∃ k1 k2 k3 k4 k5 k6, v = .tuple ⟨[findR (table k1 k2 k3 k4 k5 k6) s, .bool (lookP s (psT (table k1 k2 k3 k4 k5 k6))).isSome]⟩ ∧ (k1, Blk.row [I64 4] true) ∈ M ∧ (k2, Blk.row [I64 5] true) ∈ M ∧ (k3, Blk.row [I64 1] true) ∈ M ∧ (k4, Blk.row [I64 2] true) ∈ M ∧ (k5, Blk.row [I64 3] true) ∈ M ∧ (k6, Blk.row [I64 6] true) ∈ M := by
  refine sc_body hE.h18 rfl ?_
  show Ss E _ _ _ c18.body _ _ _
  unfold c18
  refine s_seq ?_
  refine s_ops ?_
  refine o_newz rfl (fun b0 => ?_)
  refine o_mov rfl rfl ?_
  refine o_nil ?_
  refine sSeq_normal ?_
  refine s_seq ?_
  refine s_ops ?_
  refine o_mkm rfl (fun b2 => ?_)
  refine o_mov rfl rfl ?_
  refine o_nil ?_
  refine sSeq_normal ?_
  refine s_seq ?_
  refine s_seq ?_
  refine s_ops ?_
  refine o_call1 rfl ha0 rfl (fun H1 hH1 => (operations_spec hE H1).mono ?_)
  rintro v M1 ⟨bt, k1, k2, k3, k4, k5, k6, rfl, hbt, hk1, hk2, hk3, hk4, hk5, hk6⟩
  refine o_lnl rfl rfl ?_
  refine o_mov rfl rfl ?_
  refine o_nil ?_
  refine sSeq_normal ?_
  refine s_block ?_
  refine s_iter (α := Nat × Array MapEntry × Nat) (fun z => 18 - z.1) (fun z => [(0, .string s), (2, .pointer (some ⟨b0, 0, none⟩)), (4, .map (some b2)), (10, .slice (some ⟨bt, 0, some 0⟩) 18 18), (11, I64 (18 : Nat)), (12, I64 (z.1 : Nat))]) (fun z => M1 ++ [(b2, .map z.2.1 z.2.2), (b0, .row [.string ⟨#[]⟩, .int .i64 0, .bool false, .nilFunc] true)]) (fun z => z.1 ≤ 18 ∧ StrMap z.2.1 (psT ((table k1 k2 k3 k4 k5 k6).take z.1))) (0, #[], 0) (subCons rfl (subCons rfl (subCons rfl (subCons rfl (subCons rfl (subCons rfl subNil)))))) (.refl _) ⟨Nat.zero_le _, rfl⟩ ?_
  rintro ⟨k, es, clock⟩ ⟨hk, hes⟩
  dsimp only at hk hes ⊢
  refine s_seq ?_
  refine s_ops ?_
  refine o_bin rfl rfl rfl rfl ?_
  refine o_nil ?_
  refine sSeq_normal ?_
  refine s_seq ?_
  refine s_cond rfl (fun hc0 => ?_) (fun hc0 => ?_)
  · have hk2 : k < 18 := by simp at hc0; omega
    have hkT : k < (table k1 k2 k3 k4 k5 k6).length := hk2
    obtain ⟨nm, m, nb, f, hent, hf⟩ := table_form k1 k2 k3 k4 k5 k6 (table k1 k2 k3 k4 k5 k6)[k] (List.getElem_mem hkT)
    have h4 : ∀ e ∈ (table k1 k2 k3 k4 k5 k6), e.length = 4 := fun e he => by
      obtain ⟨_, _, _, _, h, _⟩ := table_form k1 k2 k3 k4 k5 k6 e he
      rw [h]; rfl
    have hfl := flatten_at h4 hkT
    have hfn := flatten_len h4
    rw [table_len] at hfn
    rw [hent] at hfl
    have hnm : names[k]? = some nm := by
      rw [← names_eq k1 k2 k3 k4 k5 k6, List.getElem?_map, List.getElem?_eq_getElem hkT, hent]; rfl
    have hnew := table_new k1 k2 k3 k4 k5 k6 hk2 hnm
    have htk : psT ((table k1 k2 k3 k4 k5 k6).take (k + 1)) = psT ((table k1 k2 k3 k4 k5 k6).take k) ++ [(nm, .agg ⟨[.string nm, I64 m, .bool nb, f]⟩)] := by
      unfold psT; rw [List.take_succ_eq_append_getElem hkT, List.map_append, hent]; rfl
    refine s_skip ?_
    refine sSeq_normal ?_
    refine s_seq ?_
    refine s_block ?_
    refine s_seq ?_
    refine s_ops ?_
    refine o_iad rfl rfl hk2 rfl rfl ?_
    refine o_ldV (own := true) (c' := [.string nm, I64 m, .bool nb, f]) rfl (List.mem_append_left _ hbt) (by show 0 + k * 4 + 4 ≤ _; rw [hfn]; omega) (by show (List.drop (0 + k * 4) _).take 4 = _; rw [Nat.zero_add]; exact hfl) rfl ?_
    refine o_newz rfl (fun b10 => ?_)
    refine o_stN (M1 := []) (cn := [.string nm, I64 m, .bool nb, f]) rfl rfl rfl rfl (by show 0 + 4 ≤ 4; exact Nat.le_refl _) (by simp [oneCell, Value.cells] at hf ⊢; exact hf) rfl ?_
    refine o_nil ?_
    refine sSeq_normal ?_
    refine s_ops ?_
    refine o_mov rfl rfl ?_
    refine o_fad rfl rfl ?_
    refine o_ld1 rfl (by first | exact .head _ | exact .tail _ (.head _) | exact .tail _ (.tail _ (.head _)) | exact .tail _ (.tail _ (.tail _ (.head _))) | exact .tail _ (.tail _ (.tail _ (.tail _ (.head _))))) rfl rfl ?_
    refine o_ldV (own := true) (c := [.string nm, I64 m, .bool nb, f]) (c' := [.string nm, I64 m, .bool nb, f]) rfl (.head _) (by show 0 + 4 ≤ 4; exact Nat.le_refl _) rfl rfl ?_
    refine o_mupS (M1 := (b10, .row [.string nm, I64 m, .bool nb, f] true) :: M1) (M2 := [(b0, .row [.string ⟨#[]⟩, .int .i64 0, .bool false, .nilFunc] true)]) rfl rfl rfl rfl hes hnew (fun es2 clock2 hes2 => ?_)
    refine o_nil ?_
    refine sBlock_normal ?_
    refine sSeq_normal ?_
    refine s_ops ?_
    refine o_bin (v := I64 (k + 1 : Nat)) rfl rfl (by simp only [binV, binInt, if_true]; rw [wrap64 (by omega) (by omega)]; rfl) rfl ?_
    refine o_mov rfl rfl ?_
    refine o_nil ?_
    exact sIter_next (k + 1, es2, clock2) (by dsimp only; omega) (subCons rfl (subCons rfl (subCons rfl (subCons rfl (subCons rfl (subCons rfl subNil)))))) (.cons _ (.refl _)) ⟨hk2, by dsimp only; rw [htk]; exact hes2⟩
  · have hk2 : k = 18 := by simp at hc0; omega
    subst hk2
    rw [show (table k1 k2 k3 k4 k5 k6).take 18 = (table k1 k2 k3 k4 k5 k6) from rfl] at hes
    refine s_exit ?_
    refine sSeq_exit ?_
    refine sIter_exit ?_
    refine sBlock_exit ?_
    refine sSeq_normal ?_
    refine s_seq ?_
    refine s_ops ?_
    refine o_mov rfl rfl ?_
    refine o_mov rfl rfl ?_
    obtain ⟨nm, m, nb, f, hform, hf⟩ := find_form k1 k2 k3 k4 k5 k6 s
    refine o_lkpS rfl rfl (List.mem_append_right _ (.head _)) hes rfl ?_
    rw [show (.agg #[.string ⟨#[]⟩, .int .i64 0, .bool false, .nilFunc] : Value) = .agg ⟨[.string ⟨#[]⟩, I64 0, .bool false, .nilFunc]⟩ from rfl, hform]
    refine o_mov rfl rfl ?_
    refine o_ext rfl rfl rfl ?_
    refine o_ext rfl rfl rfl ?_
    refine o_newz rfl (fun b25 => ?_)
    refine o_stN (M1 := []) (cn := [.string nm, I64 m, .bool nb, f]) rfl rfl rfl rfl (by show 0 + 4 ≤ 4; exact Nat.le_refl _) (by simp [oneCell, Value.cells] at hf ⊢; exact hf) rfl ?_
    refine o_mov rfl rfl ?_
    refine o_nil ?_
    refine sSeq_normal ?_
    refine s_seq ?_
    refine s_ops ?_
    refine o_ldV (own := true) (c := [.string nm, I64 m, .bool nb, f]) (c' := [.string nm, I64 m, .bool nb, f]) rfl (.head _) (by show 0 + 4 ≤ 4; exact Nat.le_refl _) rfl rfl ?_
    refine o_mov rfl rfl ?_
    refine o_stN (M1 := (b25, .row [.string nm, I64 m, .bool nb, f] true) :: (M1 ++ [(b2, .map es clock)])) (M2 := []) (c := [.string ⟨#[]⟩, .int .i64 0, .bool false, .nilFunc]) (cn := [.string nm, I64 m, .bool nb, f]) rfl rfl rfl (by simp) (by show 0 + 4 ≤ 4; exact Nat.le_refl _) (by simp [oneCell, Value.cells] at hf ⊢; exact hf) rfl ?_
    refine o_mov rfl rfl ?_
    refine o_nil ?_
    refine sSeq_normal ?_
    refine s_ret ?_
    refine sRet_ret [_, _] ⟨⟨b0, [.string nm, I64 m, .bool nb, f], true, rfl, by simp, Nat.le_of_ble_eq_true rfl, rfl⟩, rfl, trivial⟩ ?_
    exact ⟨k1, k2, k3, k4, k5, k6, by unfold findR; rw [hform]; rfl, by simp [hk1], by simp [hk2], by simp [hk3], by simp [hk4], by simp [hk5], by simp [hk6]⟩

end Go.Proofs.YtfonnebpnobomaaDoor.W
namespace Go.Proofs.YtfonnebpnobomaaDoor.W
open Go Am code
set_option maxRecDepth 100000
set_option maxHeartbeats 4000000
set_option linter.unusedSimpArgs false
set_option linter.unusedVariables false
variable {E : Env} (hE : Has E)

theorem wrapU64 {z : Int} (h1 : 0 ≤ z) (h2 : z ≤ 18446744073709551615) : IntKind.wrap .u64 z = z := by
  simp only [IntKind.wrap, IntKind.bits, IntKind.signed]
  simp
  omega
def sizeR (i : Int) : Int := if i < 0 then -i else i

include hE in
theorem size_spec (i : Int) (h1 : -9223372036854775808 ≤ i) (h2 : i ≤ 9223372036854775807) (H : Hp) : Sc E 10 [I64 i] H [] fun v _ => v = .int .u64 (sizeR i) := by
  refine sc_body hE.h10 rfl ?_
  show Ss E _ _ _ c10.body _ _ _
  unfold c10
  refine s_seq ?_
  refine s_ops ?_
  refine o_mov rfl rfl ?_
  refine o_nil ?_
  refine sSeq_normal ?_
  refine s_seq ?_
  refine s_seq ?_
  refine s_ops ?_
  refine o_mov rfl rfl ?_
  refine o_bin rfl rfl rfl rfl ?_
  refine o_nil ?_
  refine sSeq_normal ?_
  refine s_cond rfl (fun hc0 => ?_) (fun hc0 => ?_)
  · have hi : i < 0 := by simpa using hc0
    have hres : sizeR i = -i := by unfold sizeR; rw [if_pos hi]
    refine s_seq ?_
    refine s_ops ?_
    refine o_mov rfl rfl ?_
    refine o_bin (v := I64 (i + 1)) rfl rfl (by simp only [binV, binInt, if_true]; rw [wrap64 (by omega) (by omega)]) rfl ?_
    refine o_un (v := I64 (-(i + 1))) rfl (by simp only [unV]; rw [wrap64 (by omega) (by omega)]; congr 2; omega) rfl ?_
    refine o_cvi rfl rfl ?_
    rw [wrapU64 (z := -(i + 1)) (by omega) (by omega)]
    refine o_bin (v := .int .u64 (-i)) rfl rfl (by simp only [binV, binInt, if_true]; rw [wrapU64 (by omega) (by omega)]; congr 2; omega) rfl ?_
    refine o_mov rfl rfl ?_
    refine o_nil ?_
    refine sSeq_normal ?_
    refine s_ret ?_
    refine sSeq_ret ?_
    refine sRet_ret [_] ⟨rfl, trivial⟩ ?_
    show Value.int .u64 _ = _
    rw [hres]
  · have hi : ¬ i < 0 := by simp at hc0; omega
    have hres : sizeR i = i := by unfold sizeR; rw [if_neg hi]
    refine s_skip ?_
    refine sSeq_normal ?_
    refine s_seq ?_
    refine s_ops ?_
    refine o_mov rfl rfl ?_
    refine o_cvi rfl rfl ?_
    rw [wrapU64 (z := i) (by omega) (by omega)]
    refine o_mov rfl rfl ?_
    refine o_nil ?_
    refine sSeq_normal ?_
    refine s_ret ?_
    refine sRet_ret [_] ⟨rfl, trivial⟩ ?_
    show Value.int .u64 _ = _
    rw [hres]

include hE in
theorem mkSym_spec (s : ByteArray) (H : Hp) : Sc E 17 [.string s] H [] fun v M => NewL v [(⟨3, 0, 0, s, 0, 0⟩ : Node)] M := by
  refine sc_body hE.h17 rfl ?_
  show Ss E _ _ _ c17.body _ _ _
  unfold c17
  refine s_seq ?_
  refine s_ops ?_
  refine o_mov rfl rfl ?_
  refine o_nil ?_
  refine sSeq_normal ?_
  refine s_seq ?_
  refine s_ops ?_
  refine o_mov rfl rfl ?_
  refine o_agg (c := (⟨3, 0, 0, s, 0, 0⟩ : Node).cells) (fun F hF => by simp only [List.map, hF.ev (x := .tmp 3) rfl]; rfl) rfl ?_
  refine o_lits (c := (⟨3, 0, 0, s, 0, 0⟩ : Node).cells) (fun F hF => by simp only [List.map, hF.ev (x := .tmp 4) rfl]; rfl) rfl (fun b3 => ?_)
  refine o_mov rfl rfl ?_
  refine o_nil ?_
  refine sSeq_normal ?_
  refine s_ret ?_
  refine sRet_ret [_] ⟨rfl, trivial⟩ ?_
  exact .inr ⟨b3, _, _, _, rfl, .head _, Nat.le_refl _, [], by simp⟩

end Go.Proofs.YtfonnebpnobomaaDoor.W
namespace Go.Proofs.YtfonnebpnobomaaDoor.W
open Go Am code
set_option maxRecDepth 100000
set_option maxHeartbeats 4000000
set_option linter.unusedSimpArgs false
set_option linter.unusedVariables false
variable {E : Env} (hE : Has E)

theorem wrapU {z : Int} (h1 : 0 ≤ z) (h2 : z ≤ 18446744073709551615) : IntKind.wrap .u64 z = z := by
  simp only [IntKind.wrap, IntKind.bits, IntKind.signed]
  simp
  omega
theorem mulB {a b : Nat} (ha : a < 4294967296) (hb : b < 4294967296) : a * b ≤ 18446744065119617025 := by
  have := Nat.mul_le_mul (Nat.le_sub_one_of_lt ha) (Nat.le_sub_one_of_lt hb)
  simpa using this
/-- the upper half of a product -/
theorem mulHi (x y : Nat) :
    (x / 4294967296) * (y / 4294967296) + ((x / 4294967296) * (y % 4294967296) + (x % 4294967296) * (y % 4294967296) / 4294967296) / 4294967296 + (((x / 4294967296) * (y % 4294967296) + (x % 4294967296) * (y % 4294967296) / 4294967296) % 4294967296 + (x % 4294967296) * (y / 4294967296)) / 4294967296 = x * y / 18446744073709551616 := by
  have ex : x = (x / 4294967296) * 4294967296 + x % 4294967296 := by omega
  have ey : y = (y / 4294967296) * 4294967296 + y % 4294967296 := by omega
  generalize x / 4294967296 = a at *
  generalize x % 4294967296 = b at *
  generalize y / 4294967296 = c at *
  generalize y % 4294967296 = d at *
  have e : x * y = a * c * 18446744073709551616 + (a * d + b * c) * 4294967296 + b * d := by
    rw [ex, ey, Nat.add_mul, Nat.mul_add, Nat.mul_add, Nat.add_mul]
    have h1 : a * 4294967296 * (c * 4294967296) = a * c * 18446744073709551616 := by rw [Nat.mul_mul_mul_comm]
    have h2 : a * 4294967296 * d = a * d * 4294967296 := by rw [Nat.mul_right_comm]
    have h3 : b * (c * 4294967296) = b * c * 4294967296 := by rw [Nat.mul_assoc]
    rw [h1, h2, h3]; omega
  rw [e]
  generalize a * c = p
  generalize a * d = q
  generalize b * c = r
  generalize b * d = s
  omega
theorem and32 {z : Int} (h1 : 0 ≤ z) (h2 : z < 18446744073709551616) : (BitVec.ofInt 64 z &&& BitVec.ofInt 64 4294967295).toNat = z.toNat % 4294967296 := by
  obtain ⟨n, rfl⟩ := Int.eq_ofNat_of_zero_le h1
  have : BitVec.ofInt 64 4294967295 = 4294967295#64 := by decide
  rw [this, BitVec.toNat_and, BitVec.toNat_ofInt]
  have e : (4294967295#64).toNat = 2 ^ 32 - 1 := by decide
  rw [e, Nat.and_two_pow_sub_one_eq_mod]
  have : ((n : Int) % ((2 ^ 64 : Nat) : Int)).toNat = n := by
    rw [Int.emod_eq_of_lt h1 (by simpa using h2)]; simp
  rw [this]; simp
theorem absLe {z : Int} {m : Nat} : z.natAbs ≤ m ↔ -(m : Int) ≤ z ∧ z ≤ m := by omega
/-- what the product's check says -/
def mostN (a b : Int) : Nat := if decide (a < 0) != decide (b < 0) then 9223372036854775808 else 9223372036854775807
theorem prod_exact {a b : Int} (h : a.natAbs * b.natAbs ≤ mostN a b) : -9223372036854775808 ≤ a * b ∧ a * b ≤ 9223372036854775807 := by
  have e : (a * b).natAbs = a.natAbs * b.natAbs := Int.natAbs_mul a b
  rw [← e] at h
  unfold mostN at h
  by_cases ha : a < 0
  · by_cases hb : b < 0
    · simp [ha, hb] at h; omega
    · simp [ha, hb] at h
      have : a * b ≤ 0 := Int.mul_nonpos_of_nonpos_of_nonneg (by omega) (by omega)
      omega
  · by_cases hb : b < 0
    · simp [ha, hb] at h
      have : a * b ≤ 0 := Int.mul_nonpos_of_nonneg_of_nonpos (by omega) (by omega)
      omega
    · simp [ha, hb] at h; omega
theorem fits_of {a b : Int} (h1 : -9223372036854775808 ≤ a * b) (h2 : a * b ≤ 9223372036854775807) : a.natAbs * b.natAbs ≤ mostN a b := by
  have e : (a * b).natAbs = a.natAbs * b.natAbs := Int.natAbs_mul a b
  rw [← e]
  unfold mostN
  by_cases ha : a < 0
  · by_cases hb : b < 0
    · have : 0 ≤ a * b := Int.mul_nonneg_of_nonpos_of_nonpos (by omega) (by omega)
      simp [ha, hb]; omega
    · simp [ha, hb]; omega
  · by_cases hb : b < 0
    · simp [ha, hb]; omega
    · have : 0 ≤ a * b := Int.mul_nonneg (by omega) (by omega)
      simp [ha, hb]; omega
/-- quotient and remainder -/
theorem quoRem (x y : Int) (hy : y ≠ 0) : x = x.tdiv y * y + x.tmod y ∧ (x.tmod y).natAbs < y.natAbs ∧ (0 ≤ x → 0 ≤ x.tmod y) ∧ (x ≤ 0 → x.tmod y ≤ 0) ∧ (x.tdiv y * y).natAbs ≤ x.natAbs ∧ (0 ≤ x → 0 ≤ x.tdiv y * y) ∧ (x ≤ 0 → x.tdiv y * y ≤ 0) := by
  have h1 : x = x.tdiv y * y + x.tmod y := by
    have := Int.mul_tdiv_add_tmod x y
    rw [Int.mul_comm] at this; omega
  have h2 : (x.tmod y).natAbs < y.natAbs := by
    rw [Int.natAbs_tmod]; exact Nat.mod_lt _ (by omega)
  have h3 : 0 ≤ x → 0 ≤ x.tmod y := fun h => Int.tmod_nonneg y h
  have h4 : x ≤ 0 → x.tmod y ≤ 0 := fun h => by
    have := Int.tmod_nonneg y (a := -x) (by omega)
    rw [Int.neg_tmod] at this; omega
  have h5 : (x.tdiv y * y).natAbs ≤ x.natAbs := by
    rw [Int.natAbs_mul, Int.natAbs_tdiv]; exact Nat.div_mul_le_self _ _
  refine ⟨h1, h2, h3, h4, h5, fun h => ?_, fun h => ?_⟩
  · have := h3 h
    have h6 : (x.tmod y).natAbs ≤ x.natAbs := by rw [Int.natAbs_tmod]; exact Nat.mod_le _ _
    omega
  · have := h4 h
    have h6 : (x.tmod y).natAbs ≤ x.natAbs := by rw [Int.natAbs_tmod]; exact Nat.mod_le _ _
    omega
theorem binMod {n : Nat} (h : n < 18446744073709551616) : binV .and (.int .u64 (n : Int)) (.int .u64 4294967295) = some (.int .u64 ((n % 4294967296 : Nat) : Int)) := by
  show some (Value.int .u64 (IntKind.wrap .u64 (((BitVec.ofInt 64 (n : Int) &&& BitVec.ofInt 64 4294967295).toNat : Nat) : Int))) = _
  rw [and32 (by omega) (by omega), Int.toNat_natCast, wrapU (by omega) (by omega)]
theorem binDiv {n : Nat} : binV .shr (.int .u64 (n : Int)) (.int .u64 32) = some (.int .u64 ((n / 4294967296 : Nat) : Int)) := by
  simp only [binV, IntKind.bits]
  rw [if_neg (by decide), Int.fdiv_eq_ediv_of_nonneg _ (by decide)]
  have : ((2 : Int) ^ (min (32 : Int).toNat 64)) = 4294967296 := by decide
  rw [this, Int.natCast_ediv]; rfl
theorem binMul {a b : Nat} (h : a * b < 18446744073709551616) : binV .mul (.int .u64 (a : Int)) (.int .u64 (b : Int)) = some (.int .u64 ((a * b : Nat) : Int)) := by
  simp only [binV, binInt, if_true]
  rw [← Int.natCast_mul, wrapU (by omega) (by omega)]
theorem binAdd {a b : Nat} (h : a + b < 18446744073709551616) : binV .add (.int .u64 (a : Int)) (.int .u64 (b : Int)) = some (.int .u64 ((a + b : Nat) : Int)) := by
  simp only [binV, binInt, if_true]
  rw [← Int.natCast_add, wrapU (by omega) (by omega)]
theorem binMulLo {a b : Nat} : binV .mul (.int .u64 (a : Int)) (.int .u64 (b : Int)) = some (.int .u64 ((a * b % 18446744073709551616 : Nat) : Int)) := by
  simp only [binV, binInt, if_true]
  rw [← Int.natCast_mul]
  simp only [IntKind.wrap, IntKind.bits, IntKind.signed]
  simp
def prodR (a b : Int) : List Node × Int × Int := numberR (w64 (a * b)) (decide (a.natAbs * b.natAbs ≤ mostN a b))

include hE in
theorem psize_spec (i : Int) (h1 : -9223372036854775808 ≤ i) (h2 : i ≤ 9223372036854775807) (H : Hp) : Sc E 50 [I64 i] H [] fun v _ => v = .int .u64 (i.natAbs : Nat) := by
  refine sc_body hE.h50 rfl ?_
  show Ss E _ _ _ c50.body _ _ _
  unfold c50
  refine s_seq ?_
  refine s_ops ?_
  refine o_mov rfl rfl ?_
  refine o_nil ?_
  refine sSeq_normal ?_
  refine s_seq ?_
  refine s_seq ?_
  refine s_ops ?_
  refine o_mov rfl rfl ?_
  refine o_bin rfl rfl rfl rfl ?_
  refine o_nil ?_
  refine sSeq_normal ?_
  refine s_cond rfl (fun hc0 => ?_) (fun hc0 => ?_)
  · have hi : i < 0 := by simpa using hc0
    refine s_seq ?_
    refine s_ops ?_
    refine o_mov rfl rfl ?_
    refine o_cvi rfl rfl ?_
    refine o_un (v := .int .u64 (i.natAbs : Nat)) rfl (by simp only [unV]; congr 2; simp only [IntKind.wrap, IntKind.bits, IntKind.signed]; simp; omega) rfl ?_
    refine o_mov rfl rfl ?_
    refine o_nil ?_
    refine sSeq_normal ?_
    refine s_ret ?_
    refine sSeq_ret ?_
    refine sRet_ret [_] ⟨rfl, trivial⟩ ?_
    first | rfl | (show Value.int .u64 i = _; congr 1; omega)
  · have hi : ¬ i < 0 := by simp at hc0; omega
    refine s_skip ?_
    refine sSeq_normal ?_
    refine s_seq ?_
    refine s_ops ?_
    refine o_mov rfl rfl ?_
    refine o_cvi rfl rfl ?_
    rw [wrapU (z := i) (by omega) (by omega)]
    refine o_mov rfl rfl ?_
    refine o_nil ?_
    refine sSeq_normal ?_
    refine s_ret ?_
    refine sRet_ret [_] ⟨rfl, trivial⟩ ?_
    first | rfl | (show Value.int .u64 i = _; congr 1; omega)

include hE in
theorem mul64_spec (x y : Nat) (hx : x < 18446744073709551616) (hy : y < 18446744073709551616) (H : Hp) : Sc E 51 [.int .u64 (x : Nat), .int .u64 (y : Nat)] H [] fun v _ => v = .tuple ⟨[.int .u64 (x * y / 18446744073709551616 : Nat), .int .u64 (x * y % 18446744073709551616 : Nat)]⟩ := by
  have b00 := mulB (a := x % 4294967296) (b := y % 4294967296) (by omega) (by omega)
  have b10 := mulB (a := x / 4294967296) (b := y % 4294967296) (by omega) (by omega)
  have b01 := mulB (a := x % 4294967296) (b := y / 4294967296) (by omega) (by omega)
  have b11 := mulB (a := x / 4294967296) (b := y / 4294967296) (by omega) (by omega)
  have hhi := mulHi x y
  have hle : x * y / 18446744073709551616 < 18446744073709551616 := Nat.div_lt_of_lt_mul (Nat.mul_lt_mul'' hx hy)
  refine sc_body hE.h51 rfl ?_
  show Ss E _ _ _ c51.body _ _ _
  unfold c51
  refine s_seq ?_
  refine s_ops ?_
  refine o_mov rfl rfl ?_
  refine o_mov rfl rfl ?_
  refine o_nil ?_
  refine sSeq_normal ?_
  refine s_seq ?_
  refine s_ops ?_
  refine o_mov rfl rfl ?_
  refine o_bin rfl rfl (binMod hx) rfl ?_
  refine o_mov rfl rfl ?_
  refine o_nil ?_
  refine sSeq_normal ?_
  refine s_seq ?_
  refine s_ops ?_
  refine o_mov rfl rfl ?_
  refine o_bin rfl rfl binDiv rfl ?_
  refine o_mov rfl rfl ?_
  refine o_nil ?_
  refine sSeq_normal ?_
  refine s_seq ?_
  refine s_ops ?_
  refine o_mov rfl rfl ?_
  refine o_bin rfl rfl (binMod hy) rfl ?_
  refine o_mov rfl rfl ?_
  refine o_nil ?_
  refine sSeq_normal ?_
  refine s_seq ?_
  refine s_ops ?_
  refine o_mov rfl rfl ?_
  refine o_bin rfl rfl binDiv rfl ?_
  refine o_mov rfl rfl ?_
  refine o_nil ?_
  refine sSeq_normal ?_
  refine s_seq ?_
  refine s_ops ?_
  refine o_mov rfl rfl ?_
  refine o_mov rfl rfl ?_
  refine o_bin rfl rfl (binMul (by omega)) rfl ?_
  refine o_mov rfl rfl ?_
  refine o_nil ?_
  refine sSeq_normal ?_
  refine s_seq ?_
  refine s_ops ?_
  refine o_mov rfl rfl ?_
  refine o_mov rfl rfl ?_
  refine o_bin rfl rfl (binMul (by omega)) rfl ?_
  refine o_mov rfl rfl ?_
  refine o_bin rfl rfl binDiv rfl ?_
  refine o_bin rfl rfl (binAdd (by omega)) rfl ?_
  refine o_mov rfl rfl ?_
  refine o_nil ?_
  refine sSeq_normal ?_
  refine s_seq ?_
  refine s_ops ?_
  refine o_mov rfl rfl ?_
  refine o_bin rfl rfl (binMod (by omega)) rfl ?_
  refine o_mov rfl rfl ?_
  refine o_nil ?_
  refine sSeq_normal ?_
  refine s_seq ?_
  refine s_ops ?_
  refine o_mov rfl rfl ?_
  refine o_bin rfl rfl binDiv rfl ?_
  refine o_mov rfl rfl ?_
  refine o_nil ?_
  refine sSeq_normal ?_
  refine s_seq ?_
  refine s_ops ?_
  refine o_mov rfl rfl ?_
  refine o_mov rfl rfl ?_
  refine o_mov rfl rfl ?_
  refine o_bin rfl rfl (binMul (by omega)) rfl ?_
  refine o_bin rfl rfl (binAdd (by omega)) rfl ?_
  refine o_mov rfl rfl ?_
  refine o_nil ?_
  refine sSeq_normal ?_
  refine s_seq ?_
  refine s_ops ?_
  refine o_mov rfl rfl ?_
  refine o_mov rfl rfl ?_
  refine o_bin rfl rfl (binMul (by omega)) rfl ?_
  refine o_mov rfl rfl ?_
  refine o_bin rfl rfl (binAdd (by omega)) rfl ?_
  refine o_mov rfl rfl ?_
  refine o_bin rfl rfl binDiv rfl ?_
  refine o_bin rfl rfl (binAdd (by omega)) rfl ?_
  refine o_mov rfl rfl ?_
  refine o_nil ?_
  refine sSeq_normal ?_
  refine s_seq ?_
  refine s_ops ?_
  refine o_mov rfl rfl ?_
  refine o_mov rfl rfl ?_
  refine o_bin rfl rfl binMulLo rfl ?_
  refine o_mov rfl rfl ?_
  refine o_nil ?_
  refine sSeq_normal ?_
  refine s_ret ?_
  refine sRet_ret [_, _] ⟨rfl, rfl, trivial⟩ ?_
  show Value.tuple ⟨[_, _]⟩ = _
  rw [hhi]

include hE in
theorem product_spec (sv : Value) (hsv : oneCell sv = true) (a b : Int) (h1 : -9223372036854775808 ≤ a) (h2 : a ≤ 9223372036854775807) (h3 : -9223372036854775808 ≤ b) (h4 : b ≤ 9223372036854775807) (H : Hp) : Sc E 31 [.agg ⟨[sv, I64 a, I64 b]⟩] H [] fun v M => ResIs v (prodR a b) M := by
  have hmost : ((if (decide (a < 0) != decide (b < 0)) = true then 9223372036854775808 else 9223372036854775807 : Int)) = (mostN a b : Int) := by
    unfold mostN; split <;> rfl
  have hml : mostN a b ≤ 9223372036854775808 := by unfold mostN; split <;> omega
  have hfit : (((a.natAbs * b.natAbs / 18446744073709551616 : Nat) : Int) == 0 && decide (((a.natAbs * b.natAbs % 18446744073709551616 : Nat) : Int) ≤ (mostN a b : Int))) = decide (a.natAbs * b.natAbs ≤ mostN a b) := by
    generalize a.natAbs * b.natAbs = m
    by_cases hm : m ≤ mostN a b
    · rw [show m / 18446744073709551616 = 0 by omega]; simp [hm]; omega
    · by_cases hd : m / 18446744073709551616 = 0
      · rw [hd]; simp [hm]; omega
      · simp [hm]; omega
  refine sc_body hE.h31 rfl ?_
  show Ss E _ _ _ c31.body _ _ _
  unfold c31
  refine s_seq ?_
  refine s_ops ?_
  refine o_box (c := [sv, I64 a, I64 b]) rfl rfl rfl (fun b0 => ?_)
  refine o_newz rfl (fun b1 => ?_)
  refine o_nil ?_
  refine sSeq_normal ?_
  refine s_seq ?_
  refine s_ops ?_
  refine o_mov rfl rfl ?_
  refine o_nil ?_
  refine sSeq_normal ?_
  refine s_seq ?_
  refine s_ops ?_
  refine o_mov rfl rfl ?_
  refine o_nil ?_
  refine sSeq_normal ?_
  refine s_mid (α := Unit) (fun _ => [(1, .pointer (some ⟨b0, 0, none⟩)), (2, .pointer (some ⟨b1, 0, none⟩)), (3, .func (.func 50) #[] #[]), (4, .int .u64 (mostN a b : Nat))]) (fun _ => [(b1, .row [.slice none 0 0, I64 0, I64 0] true), (b0, .row [sv, I64 a, I64 b] true)]) (fun _ => True) ?_ ?_
  · skip
    refine s_seq ?_
    refine s_ops ?_
    refine o_fad rfl rfl ?_
    refine o_ld1 rfl (by first | exact .head _ | exact .tail _ (.head _) | exact .tail _ (.tail _ (.head _)) | exact .tail _ (.tail _ (.tail _ (.head _))) | exact .tail _ (.tail _ (.tail _ (.tail _ (.head _))))) rfl rfl ?_
    refine o_bin rfl rfl rfl rfl ?_
    refine o_fad rfl rfl ?_
    refine o_ld1 rfl (by first | exact .head _ | exact .tail _ (.head _) | exact .tail _ (.tail _ (.head _)) | exact .tail _ (.tail _ (.tail _ (.head _))) | exact .tail _ (.tail _ (.tail _ (.tail _ (.head _))))) rfl rfl ?_
    refine o_bin rfl rfl rfl rfl ?_
    refine o_eqb rfl rfl rfl ?_
    refine o_nil ?_
    refine sSeq_normal ?_
    refine s_cond rfl (fun hc0 => ?_) (fun hc0 => ?_)
    · skip
      refine s_ops ?_
      refine o_mov rfl rfl ?_
      refine o_bin rfl rfl rfl rfl ?_
      refine o_mov rfl rfl ?_
      refine o_nil ?_
      exact sMid_normal () (subCons rfl (subCons rfl (subCons rfl (subEq rfl (by rw [← hmost]; first | (rw [if_pos (by simpa using hc0)]; done) | (rw [if_pos (by simpa using hc0)]; rfl) | (rw [if_neg (by simpa using hc0)])) subNil)))) (.refl _) trivial
    · skip
      refine s_skip ?_
      exact sMid_normal () (subCons rfl (subCons rfl (subCons rfl (subEq rfl (by rw [← hmost]; first | (rw [if_pos (by simpa using hc0)]; done) | (rw [if_pos (by simpa using hc0)]; rfl) | (rw [if_neg (by simpa using hc0)])) subNil)))) (.refl _) trivial
  · rintro _ _
    refine s_seq ?_
    refine s_draw [true, true, true, true, true, true, true, false, false, false, true, true, true, false] rfl ?_
    refine o_mov rfl rfl ?_
    refine o_fad rfl rfl ?_
    refine o_ld1 rfl (by first | exact .head _ | exact .tail _ (.head _) | exact .tail _ (.tail _ (.head _)) | exact .tail _ (.tail _ (.tail _ (.head _))) | exact .tail _ (.tail _ (.tail _ (.tail _ (.head _))))) rfl rfl ?_
    refine o_call0 (v := .int .u64 (a.natAbs : Nat)) rfl (ha1 rfl) rfl (fun H1 _ => psize_spec hE a h1 h2 H1) ?_
    refine o_mov rfl rfl ?_
    refine o_fad rfl rfl ?_
    refine o_ld1 rfl (by first | exact .head _ | exact .tail _ (.head _) | exact .tail _ (.tail _ (.head _)) | exact .tail _ (.tail _ (.tail _ (.head _))) | exact .tail _ (.tail _ (.tail _ (.tail _ (.head _))))) rfl rfl ?_
    refine o_call0 (v := .int .u64 (b.natAbs : Nat)) rfl (ha1 rfl) rfl (fun H1 _ => psize_spec hE b h3 h4 H1) ?_
    refine o_call0 (v := .tuple ⟨[.int .u64 (a.natAbs * b.natAbs / 18446744073709551616 : Nat), .int .u64 (a.natAbs * b.natAbs % 18446744073709551616 : Nat)]⟩) rfl (ha2 rfl rfl) rfl (fun H1 _ => mul64_spec hE a.natAbs b.natAbs (by omega) (by omega) H1) ?_
    refine o_mov rfl rfl ?_
    refine o_ext rfl rfl rfl ?_
    refine o_ext rfl rfl rfl ?_
    refine o_mov rfl rfl ?_
    refine o_mov rfl rfl ?_
    refine o_nil ?_
    refine sSeq_normal ?_
    refine s_seq ?_
    refine s_ops ?_
    refine o_fad rfl rfl ?_
    refine o_ld1 rfl (by first | exact .head _ | exact .tail _ (.head _) | exact .tail _ (.tail _ (.head _)) | exact .tail _ (.tail _ (.tail _ (.head _))) | exact .tail _ (.tail _ (.tail _ (.tail _ (.head _))))) rfl rfl ?_
    refine o_fad rfl rfl ?_
    refine o_ld1 rfl (by first | exact .head _ | exact .tail _ (.head _) | exact .tail _ (.tail _ (.head _)) | exact .tail _ (.tail _ (.tail _ (.head _))) | exact .tail _ (.tail _ (.tail _ (.tail _ (.head _))))) rfl rfl ?_
    refine o_bin (v := I64 (w64 (a * b))) rfl rfl rfl rfl ?_
    refine o_mov rfl rfl ?_
    refine o_bin rfl rfl rfl rfl ?_
    refine o_mov rfl rfl ?_
    refine g_mov (by first | exact wanted_b rfl | exact wanted_g rfl) (by first | exact evG rfl | exact evG2 rfl | exact evG3 rfl | exact fun _ => rfl) rfl ?_
    refine g_mov (by first | exact wanted_b rfl | exact wanted_g rfl) (by first | exact evG rfl | exact evG2 rfl | exact evG3 rfl | exact fun _ => rfl) rfl ?_
    refine g_bin (by first | exact wanted_b rfl | exact wanted_g rfl) (by first | exact evG rfl | exact evG2 rfl | exact evG3 rfl | exact fun _ => rfl) (by first | exact evG rfl | exact evG2 rfl | exact evG3 rfl | exact fun _ => rfl) (fun _ => rfl) rfl ?_
    refine o_pickB rfl (by first | exact fun h => evG rfl (by rw [h]; rfl) | exact fun _ => rfl) (by first | exact fun h => evG rfl (by rw [h]; rfl) | exact fun _ => rfl) rfl ?_
    refine o_call1 rfl (ha2 rfl rfl) rfl (fun H1 hH1 => (number_spec hE (w64 (a * b)) _ H1).mono ?_)
    rintro v M1 hr
    have hr2 : ResIs v (prodR a b) M1 := by
      revert hr
      unfold prodR
      rw [← hfit]
      generalize (((a.natAbs * b.natAbs / 18446744073709551616 : Nat) : Int) == 0) = p
      generalize decide (((a.natAbs * b.natAbs % 18446744073709551616 : Nat) : Int) ≤ (mostN a b : Int)) = q
      intro hr
      cases p <;> cases q <;> exact hr
    obtain ⟨rv, rfl, hnew⟩ := hr2
    refine o_stN (M1 := M1) (M2 := [(b0, .row [sv, I64 a, I64 b] true)]) (cn := [rv, I64 (prodR a b).2.1, I64 (prodR a b).2.2]) rfl rfl rfl rfl (by show 0 + 3 ≤ 3; exact Nat.le_refl _) (by rcases hnew with ⟨h, _⟩ | ⟨_, _, _, _, h, _⟩ <;> rw [h] <;> rfl) rfl ?_
    refine o_nil ?_
    refine sSeq_normal ?_
    refine s_ret ?_
    refine sRet_ret [_] ⟨⟨_, _, _, rfl, List.mem_append_right _ (.head _), Nat.le_refl _, rfl⟩, trivial⟩ ?_
    exact ⟨rv, rfl, hnew.mono (fun x hx => List.mem_append_left _ hx)⟩

end Go.Proofs.YtfonnebpnobomaaDoor.W
namespace Go.Proofs.YtfonnebpnobomaaDoor.W
open Go Am code
set_option maxRecDepth 100000
set_option maxHeartbeats 4000000
set_option linter.unusedSimpArgs false
set_option linter.unusedVariables false
variable {E : Env} (hE : Has E)
variable (symB : ByteArray → Bool)

/-- the first argument that is no value -/
def badArg (ts : List (List Node)) : Nat → Nat → Option (Nat × Int)
  | 0, _ => none
  | k + 1, i => match ts[i]? with
    | none => none
    | some t => if valErr symB t ≠ 0 then some (i, valErr symB t) else badArg ts k (i + 1)
theorem badArg_none {ts : List (List Node)} : ∀ {k i : Nat}, i + k = ts.length → badArg symB ts k i = none → ∀ (j : Nat) t, i ≤ j → ts[j]? = some t → valErr symB t = 0 := by
  intro k
  induction k with
  | zero =>
    intro i hi _ j t hj ht
    have := (List.getElem?_eq_some_iff.1 ht).1
    omega
  | succ k ih =>
    intro i hi h j t hj ht
    have hlt : i < ts.length := by omega
    simp only [badArg, List.getElem?_eq_getElem hlt] at h
    split at h
    · cases h
    · rename_i hv
      rcases Nat.eq_or_lt_of_le hj with e | e
      · subst e
        rw [List.getElem?_eq_getElem hlt] at ht
        cases ht
        simpa using hv
      · exact ih (by omega) h j t e ht
theorem notInt_neg {ts : List (List Node)} (hpos : ∀ t ∈ ts, 0 < t.length) : ∀ {k i : Nat}, i + k = ts.length → notInt ts k i < 0 → ∀ (j : Nat) t x, i ≤ j → ts[j]? = some t → t[0]? = some x → x.kind = 1 := by
  intro k
  induction k with
  | zero =>
    intro i hi _ j t x hj ht _
    have := (List.getElem?_eq_some_iff.1 ht).1
    omega
  | succ k ih =>
    intro i hi h j t x hj ht hx
    have hlt : i < ts.length := by omega
    have hp := hpos ts[i] (List.getElem_mem hlt)
    simp only [notInt, List.getElem?_eq_getElem hlt, List.getElem?_eq_getElem hp] at h
    split at h
    · omega
    · rename_i hv
      rcases Nat.eq_or_lt_of_le hj with e | e
      · subst e
        rw [List.getElem?_eq_getElem hlt] at ht
        cases ht
        rw [List.getElem?_eq_getElem hp] at hx
        cases hx
        simpa using hv
      · exact ih (by omega) h j t x e ht hx
/-- what Apply returns, where R is what the primitive's function returns -/
def applyR (many : Int) (num : Bool) (ts : List (List Node)) (R : List Node × Int × Int) : List Node × Int × Int := match badArg symB ts ts.length 0 with
  | some (i, e) => ([], i, e)
  | none => if (ts.length : Int) ≠ many then ([], 0, 18) else if num = true ∧ notInt ts ts.length 0 ≥ 0 then ([], notInt ts ts.length 0, 19) else R
def TupIs (v : Value) (r : List Node × Int × Int) (M : Ms) : Prop := ∃ rv, v = .tuple ⟨[rv, I64 r.2.1, I64 r.2.2]⟩ ∧ NewL rv r.1 M
def KF (H : Hp) (k : Nat) (z : Int) : Prop := (∃ o, H.get k = .row [I64 z] o) ∧ k < H.size
theorem KF.of {H0 H : Hp} {S : List Nat} {M : Ms} {k : Nat} {z : Int} (h : St H0 S H M) (hm : (k, Blk.row [I64 z] true) ∈ M) : KF H k z := ⟨⟨true, (h.here _ _ hm).1⟩, (h.here _ _ hm).2.1⟩

include hE in
theorem Apply_spec (name : ByteArray) (ts : List (List Node)) (svs : List Value) (oa : Option Addr) (ca : Nat) (H : Hp) (hbig : ts.length ≤ 1000000) (hargs : ArgsIs H oa svs ts) (hsym : ∀ t ∈ ts, SymsOK E symB t)
    (many : Int) (num : Bool) (R : List Node × Int × Int) (gf : FuncId) (cap : Nat → Nat → Nat → Nat → Nat → Nat → List Value) (hnum : num = true → many = 2)
    (hent : ∀ k1 k2 k3 k4 k5 k6, ∃ nm, lookP name (psT (table k1 k2 k3 k4 k5 k6)) = some (.agg ⟨[.string nm, I64 many, .bool num, .func (.func gf) #[] ⟨cap k1 k2 k3 k4 k5 k6⟩]⟩))
    (hdo : badArg symB ts ts.length 0 = none → (ts.length : Int) = many → ∀ a b : Int, (num = true → notInt ts ts.length 0 < 0 ∧ ∀ t u x y, ts[0]? = some t → ts[1]? = some u → t[0]? = some x → u[0]? = some y → a = x.n ∧ b = y.n) → ∀ k1 k2 k3 k4 k5 k6 H1, ArgsIs H1 oa svs ts → KF H1 k1 4 → KF H1 k2 5 → KF H1 k3 1 → KF H1 k4 2 → KF H1 k5 3 → KF H1 k6 6 →
      Sc E gf (.agg ⟨[.slice oa ts.length ca, I64 a, I64 b]⟩ :: cap k1 k2 k3 k4 k5 k6) H1 [] fun v M => ResIs v R M) :
    Sc E 13 [.string name, .slice oa ts.length ca] H [] fun v M => TupIs v (applyR symB many num ts R) M := by
  refine sc_body hE.h13 rfl ?_
  show Ss E _ _ _ c13.body _ _ _
  unfold c13
  refine s_seq ?_
  refine s_ops ?_
  refine o_mov rfl rfl ?_
  refine o_mov rfl rfl ?_
  refine o_mov rfl rfl ?_
  refine o_nil ?_
  refine sSeq_normal ?_
  refine s_seq ?_
  refine s_ops ?_
  refine o_mov rfl rfl ?_
  refine o_call1 rfl (ha1 rfl) rfl (fun H1 hH1 => (find_spec hE name H1).mono ?_)
  rintro v M1 ⟨k1, k2, k3, k4, k5, k6, rfl, hk1, hk2, hk3, hk4, hk5, hk6⟩
  obtain ⟨nm, hl⟩ := hent k1 k2 k3 k4 k5 k6
  have hf : findR (table k1 k2 k3 k4 k5 k6) name = .agg ⟨[.string nm, I64 many, .bool num, .func (.func gf) #[] ⟨cap k1 k2 k3 k4 k5 k6⟩]⟩ := by unfold findR; rw [hl]; rfl
  rw [hf, hl]
  obtain ⟨fe, hfe⟩ : ∃ fe, fe = [.string nm, I64 many, .bool num, .func (.func gf) #[] ⟨cap k1 k2 k3 k4 k5 k6⟩] := ⟨_, rfl⟩
  have fe1 : fe[1]? = some (I64 many) := by rw [hfe]; rfl
  have fe2 : fe[2]? = some (.bool num) := by rw [hfe]; rfl
  have fe3 : fe[3]? = some (.func (.func gf) #[] ⟨cap k1 k2 k3 k4 k5 k6⟩) := by rw [hfe]; rfl
  have fel : fe.length = 4 := by rw [hfe]; rfl
  have feo : fe.all oneCell = true := by rw [hfe]; rfl
  have fes : setAll [.string ⟨#[]⟩, .int .i64 0, .bool false, .nilFunc] 0 fe = fe := by rw [hfe]; rfl
  rw [← hfe]
  clear hfe
  refine o_mov rfl rfl ?_
  refine o_ext rfl rfl rfl ?_
  refine o_ext rfl rfl rfl ?_
  refine o_newz rfl (fun b8 => ?_)
  refine o_stN (M1 := []) (cn := fe) rfl rfl fel rfl (by show 0 + fe.length ≤ 4; rw [fel]; exact Nat.le_refl _) feo fes ?_
  refine o_mov rfl rfl ?_
  refine o_nil ?_
  refine sSeq_normal ?_
  refine s_seq ?_
  refine s_seq ?_
  refine s_ops ?_
  refine o_mov rfl rfl ?_
  refine o_un rfl rfl rfl ?_
  refine o_nil ?_
  refine sSeq_normal ?_
  refine s_cond (p := false) rfl (fun hc0 => ?_) (fun hc0 => ?_)
  · cases hc0
    done
  · skip
    refine s_skip ?_
    refine sSeq_normal ?_
    refine s_seq ?_
    refine s_seq ?_
    refine s_ops ?_
    refine o_mov rfl rfl ?_
    refine o_lnl rfl rfl ?_
    refine o_mov rfl rfl ?_
    refine o_nil ?_
    refine sSeq_normal ?_
    refine s_block ?_
    refine s_iter (α := Nat) (fun k => ts.length - k) (fun k => [(1, .slice oa ts.length ca), (7, .pointer (some ⟨b8, 0, none⟩)), (22, .slice oa ts.length ca), (23, I64 (ts.length : Nat)), (24, I64 (k : Nat))]) (fun _ => (b8, .row fe true) :: (M1 ++ [])) (fun k => k ≤ ts.length ∧ badArg symB ts (ts.length - k) k = badArg symB ts ts.length 0) 0 (subCons rfl (subCons rfl (subCons rfl (subCons rfl (subCons rfl subNil))))) (.refl _) ⟨Nat.zero_le _, rfl⟩ ?_
    rintro k ⟨hk, hr⟩
    refine s_seq ?_
    refine s_ops ?_
    refine o_bin rfl rfl rfl rfl ?_
    refine o_nil ?_
    refine sSeq_normal ?_
    refine s_seq ?_
    refine s_cond rfl (fun hc1 => ?_) (fun hc1 => ?_)
    · have hkk : k < ts.length := by simp at hc1; exact hc1
      obtain ⟨t, ht⟩ : ∃ t, ts[k]? = some t := ⟨ts[k], List.getElem?_eq_getElem hkk⟩
      obtain ⟨ob, cap', g1, g2, g3, g4, hcap, hsl, hok⟩ := hargs.at ht
      rw [show ts.length - k = (ts.length - (k + 1)) + 1 by omega] at hr
      simp only [badArg, ht] at hr
      refine s_skip ?_
      refine sSeq_normal ?_
      refine s_seq ?_
      refine s_block ?_
      refine s_seq ?_
      refine s_ops ?_
      refine o_mov rfl rfl ?_
      refine o_iad rfl rfl hkk g1 rfl ?_
      refine o_ld1_old rfl g2 (by simp) g4 rfl ?_
      refine o_mov rfl rfl ?_
      refine o_mov rfl rfl ?_
      refine o_nil ?_
      refine sSeq_normal ?_
      refine s_seq ?_
      refine s_ops ?_
      refine o_mov rfl rfl ?_
      refine o_call0 (v := I64 (valErr symB t)) rfl (ha1 rfl) rfl (fun H1 hH1 => pvalue_spec hE symB (hsym t (List.mem_of_getElem? ht)) hok H1 ob cap' (hsl.mono hH1 (fun _ _ h => (by cases h)))) ?_
      refine o_mov rfl rfl ?_
      refine o_nil ?_
      refine sSeq_normal ?_
      refine s_seq ?_
      refine s_ops ?_
      refine o_mov rfl rfl ?_
      refine o_bin rfl rfl rfl rfl ?_
      refine o_nil ?_
      refine sSeq_normal ?_
      refine s_cond rfl (fun hc2 => ?_) (fun hc2 => ?_)
      · have hv : valErr symB t ≠ 0 := by simpa using hc2
        have hres : applyR symB many num ts R = ([], (k : Int), valErr symB t) := by unfold applyR; rw [← hr, if_pos hv]
        refine s_seq ?_
        refine s_ops ?_
        refine o_mov rfl rfl ?_
        refine o_mov rfl rfl ?_
        refine o_mov rfl rfl ?_
        refine o_mov rfl rfl ?_
        refine o_mov rfl rfl ?_
        refine o_nil ?_
        refine sSeq_normal ?_
        refine s_ret ?_
        refine sBlock_ret ?_
        refine sSeq_ret ?_
        refine sIter_ret ?_
        refine sBlock_ret ?_
        refine sSeq_ret ?_
        refine sRet_ret [_, _, _] ⟨rfl, rfl, rfl, trivial⟩ ?_
        first | (exact ⟨_, (by rw [hres]; rfl), .inl ⟨rfl, (by rw [hres])⟩⟩; done) | exact ⟨rv, (by rw [hres]; rfl), (by rw [hres]; exact hnew.mono (fun x hx => List.mem_cons_of_mem _ (List.mem_append_left _ hx)))⟩
      · have hv : ¬ valErr symB t ≠ 0 := by simpa using hc2
        rw [if_neg hv] at hr
        refine s_skip ?_
        refine sBlock_normal ?_
        refine sSeq_normal ?_
        refine s_ops ?_
        refine o_bin (v := I64 (k + 1 : Nat)) rfl rfl (by simp only [binV, binInt, if_true]; rw [wrap64 (by omega) (by omega)]; rfl) rfl ?_
        refine o_mov rfl rfl ?_
        refine o_nil ?_
        exact sIter_next (k + 1) (by omega) (subCons rfl (subCons rfl (subCons rfl (subCons rfl (subCons rfl subNil))))) (.refl _) ⟨hkk, hr⟩
    · have hkk : k = ts.length := by simp at hc1; omega
      have hnone : badArg symB ts ts.length 0 = none := by rw [← hr, hkk, Nat.sub_self]; rfl
      refine s_exit ?_
      refine sSeq_exit ?_
      refine sIter_exit ?_
      refine sBlock_exit ?_
      refine sSeq_normal ?_
      refine s_seq ?_
      refine s_seq ?_
      refine s_ops ?_
      refine o_mov rfl rfl ?_
      refine o_lnl rfl rfl ?_
      refine o_fad rfl rfl ?_
      refine o_ld1 rfl (.head _) fe1 rfl ?_
      refine o_bin rfl rfl rfl rfl ?_
      refine o_nil ?_
      refine sSeq_normal ?_
      refine s_cond rfl (fun hc3 => ?_) (fun hc3 => ?_)
      · have hm : (ts.length : Int) ≠ many := by simpa using hc3
        have hres : applyR symB many num ts R = ([], 0, 18) := by unfold applyR; rw [hnone]; exact if_pos hm
        refine s_seq ?_
        refine s_ops ?_
        refine o_mov rfl rfl ?_
        refine o_mov rfl rfl ?_
        refine o_mov rfl rfl ?_
        refine o_nil ?_
        refine sSeq_normal ?_
        refine s_ret ?_
        refine sSeq_ret ?_
        refine sRet_ret [_, _, _] ⟨rfl, rfl, rfl, trivial⟩ ?_
        first | (exact ⟨_, (by rw [hres]; rfl), .inl ⟨rfl, (by rw [hres])⟩⟩; done) | exact ⟨rv, (by rw [hres]; rfl), (by rw [hres]; exact hnew.mono (fun x hx => List.mem_cons_of_mem _ (List.mem_append_left _ hx)))⟩
      · have hm : ¬ (ts.length : Int) ≠ many := by simpa using hc3
        have hm2 : (ts.length : Int) = many := by simpa using hm
        have hvals : ∀ (j : Nat) t, ts[j]? = some t → valErr symB t = 0 := fun j t ht => badArg_none symB (by omega) hnone j t (Nat.zero_le _) ht
        have hpos : ∀ t ∈ ts, 0 < t.length := fun t ht => by
          obtain ⟨j, hj⟩ := List.mem_iff_getElem?.1 ht
          exact valErr_ok symB (hvals j t hj)
        refine s_skip ?_
        refine sSeq_normal ?_
        refine s_seq ?_
        refine s_ops ?_
        refine o_mov rfl rfl ?_
        refine o_agg (c := [.slice oa ts.length ca, I64 0, I64 0]) (fun F hF => by simp only [List.map, hF.ev (x := .tmp 41) rfl]; rfl) rfl ?_
        refine o_newz rfl (fun b47 => ?_)
        refine o_stN (M1 := []) (cn := [.slice oa ts.length ca, I64 0, I64 0]) rfl rfl rfl rfl (by show 0 + 3 ≤ 3; exact Nat.le_refl _) rfl rfl ?_
        refine o_nil ?_
        refine sSeq_normal ?_
        refine s_mid (α := Int × Int) (fun _ => [(1, .slice oa ts.length ca), (7, .pointer (some ⟨b8, 0, none⟩)), (12, .pointer (some ⟨b47, 0, none⟩))]) (fun z => (b47, .row [.slice oa ts.length ca, I64 z.1, I64 z.2] true) :: (b8, .row fe true) :: (M1 ++ [])) (fun z => num = true → notInt ts ts.length 0 < 0 ∧ ∀ t u x y, ts[0]? = some t → ts[1]? = some u → t[0]? = some x → u[0]? = some y → z.1 = x.n ∧ z.2 = y.n) ?_ ?_
        · skip
          refine s_seq ?_
          refine s_ops ?_
          refine o_fad rfl rfl ?_
          refine o_ld1 rfl (.tail _ (.head _)) fe2 rfl ?_
          refine o_nil ?_
          refine sSeq_normal ?_
          refine s_cond rfl (fun hc4 => ?_) (fun hc4 => ?_)
          · skip
            refine s_seq ?_
            refine s_seq ?_
            refine s_ops ?_
            refine o_mov rfl rfl ?_
            refine o_call0 (v := I64 (notInt ts ts.length 0)) rfl (ha2 rfl rfl) rfl (fun H1 hH1 => indexFunc_spec hE H1 oa ca svs ts hbig (hargs.mono hH1) hpos) ?_
            refine o_mov rfl rfl ?_
            refine o_nil ?_
            refine sSeq_normal ?_
            refine s_seq ?_
            refine s_ops ?_
            refine o_mov rfl rfl ?_
            refine o_bin rfl rfl rfl rfl ?_
            refine o_nil ?_
            refine sSeq_normal ?_
            refine s_cond rfl (fun hc5 => ?_) (fun hc5 => ?_)
            · have hge : notInt ts ts.length 0 ≥ 0 := by simpa using hc5
              have hres : applyR symB many num ts R = ([], notInt ts ts.length 0, 19) := by unfold applyR; rw [hnone]; dsimp only; rw [if_neg hm, if_pos ⟨hc4, hge⟩]
              refine s_seq ?_
              refine s_ops ?_
              refine o_mov rfl rfl ?_
              refine o_mov rfl rfl ?_
              refine o_mov rfl rfl ?_
              refine o_mov rfl rfl ?_
              refine o_nil ?_
              refine sSeq_normal ?_
              refine s_ret ?_
              refine sSeq_ret ?_
              refine sMid_ret ?_
              refine sRet_ret [_, _, _] ⟨rfl, rfl, rfl, trivial⟩ ?_
              first | (exact ⟨_, (by rw [hres]; rfl), .inl ⟨rfl, (by rw [hres])⟩⟩; done) | exact ⟨rv, (by rw [hres]; rfl), (by rw [hres]; exact hnew.mono (fun x hx => List.mem_cons_of_mem _ (List.mem_append_left _ hx)))⟩
            · have hneg : notInt ts ts.length 0 < 0 := by simp at hc5; omega
              have hl2 : ts.length = 2 := by have := hnum hc4; omega
              obtain ⟨t, ht0⟩ : ∃ t, ts[0]? = some t := ⟨ts[0], List.getElem?_eq_getElem (by omega)⟩
              obtain ⟨u, ht1⟩ : ∃ u, ts[1]? = some u := ⟨ts[1], List.getElem?_eq_getElem (by omega)⟩
              have hp := hpos t (List.mem_of_getElem? ht0)
              have hq := hpos u (List.mem_of_getElem? ht1)
              obtain ⟨x0, hx0⟩ : ∃ x, t[0]? = some x := ⟨t[0], List.getElem?_eq_getElem hp⟩
              obtain ⟨y0, hy0⟩ : ∃ x, u[0]? = some x := ⟨u[0], List.getElem?_eq_getElem hq⟩
              obtain ⟨ob, cap1, g1, g2, g3, g4, hcap, hsl, hok⟩ := hargs.at ht0
              obtain ⟨oc, cap2, k1', k2', k3', k4', hcap2, hsl2, hok2⟩ := hargs.at ht1
              have hg := hsl.get (i := 0) (by simpa using hp)
              have hk := hsl2.get (i := 0) (by simpa using hq)
              have hcell : H.cell? ⟨(adr ob 6 0).block, (adr ob 6 0).off + 2, none⟩ = some (I64 x0.n) := hsl.cell (i := 0) (j := 2) (by simpa using hp) (by rw [List.getElem?_eq_getElem hp] at hx0; cases hx0; simp [Node.cells])
              have hcell2 : H.cell? ⟨(adr oc 6 0).block, (adr oc 6 0).off + 2, none⟩ = some (I64 y0.n) := hsl2.cell (i := 0) (j := 2) (by simpa using hq) (by rw [List.getElem?_eq_getElem hq] at hy0; cases hy0; simp [Node.cells])
              refine s_know (P := H.size ≤ b47) (fun H1 hH1 => ?_) (fun hne => ?_)
              · have e1 := (hH1.here b47 _ (.head _)).2.2
                simpa using e1
              refine s_skip ?_
              refine sSeq_normal ?_
              refine s_drawX ?_
              refine d_pure rfl ?_
              refine o_mov rfl rfl ?_
              refine o_nil ?_
              refine d_pure rfl ?_
              refine o_iad (i := 0) rfl rfl (by omega) g1 rfl ?_
              refine o_nil ?_
              refine d_readN [_] rfl (t_ld1 rfl) ?_
              refine o_ld1_old rfl g2 (by simp) g4 rfl ?_
              refine o_nil ?_
              refine d_pure rfl ?_
              refine o_iad (i := 0) rfl rfl hp hg.1 rfl ?_
              refine o_nil ?_
              refine d_pure rfl ?_
              refine o_fad rfl rfl ?_
              refine o_nil ?_
              refine d_readN [_] rfl (t_ld1 rfl) ?_
              refine o_ld1_old rfl hg.2.1 (by simp) hcell rfl ?_
              refine o_nil ?_
              refine d_pure rfl ?_
              refine o_mov rfl rfl ?_
              refine o_nil ?_
              refine d_pure rfl ?_
              refine o_iad (i := 1) rfl rfl (by omega) k1' rfl ?_
              refine o_nil ?_
              refine d_readN [_] rfl (t_ld1 rfl) ?_
              refine o_ld1_old rfl k2' (by simp) k4' rfl ?_
              refine o_nil ?_
              refine d_pure rfl ?_
              refine o_iad (i := 0) rfl rfl hq hk.1 rfl ?_
              refine o_nil ?_
              refine d_pure rfl ?_
              refine o_fad rfl rfl ?_
              refine o_nil ?_
              refine d_readN [_] rfl (t_ld1 rfl) ?_
              refine o_ld1_old rfl hk.2.1 (by simp) hcell2 rfl ?_
              refine o_nil ?_
              refine d_pure rfl ?_
              refine o_fad rfl rfl ?_
              refine o_nil ?_
              refine d_st (M1 := []) (cn := [.slice oa ts.length ca, I64 x0.n, I64 0]) rfl rfl rfl rfl (by show 1 + 1 ≤ 3; omega) rfl rfl ?_
              refine d_pure rfl ?_
              refine o_fad rfl rfl ?_
              refine o_nil ?_
              refine d_st (M1 := []) (cn := [.slice oa ts.length ca, I64 x0.n, I64 y0.n]) rfl rfl rfl rfl (by show 2 + 1 ≤ 3; omega) rfl rfl ?_
              refine d_nil (And.intro ?_ ?_)
              · have nb : ∀ {a b : Nat}, a ≠ b → Nat.beq a b = false := fun {a b} h => by
                  cases e : Nat.beq a b with
                  | false => rfl
                  | true => exact absurd (Nat.eq_of_beq_eq_true e) h
                have hg2 := hg.2.1
                have hk2 := hk.2.1
                simp [apart, compat, isIn, nb (show b47 ≠ (adr oa 1 0).block by omega), nb (show b47 ≠ (adr ob 6 0).block by omega), nb (show b47 ≠ (adr oa 1 1).block by omega), nb (show b47 ≠ (adr oc 6 0).block by omega)]
              first | exact sMid_normal (x0.n, y0.n) (subCons rfl (subCons rfl (subCons rfl subNil))) (.refl _) (fun _ => ⟨hneg, fun t1 u1 x1 y1 e1 e2 e3 e4 => by rw [ht0] at e1; cases e1; rw [ht1] at e2; cases e2; rw [hx0] at e3; cases e3; rw [hy0] at e4; cases e4; exact ⟨rfl, rfl⟩⟩) | exact sMid_normal (0, 0) (subCons rfl (subCons rfl (subCons rfl subNil))) (.refl _) (fun h => (by rw [hc4] at h; cases h))
          · skip
            refine s_skip ?_
            first | exact sMid_normal (x0.n, y0.n) (subCons rfl (subCons rfl (subCons rfl subNil))) (.refl _) (fun _ => ⟨hneg, fun t1 u1 x1 y1 e1 e2 e3 e4 => by rw [ht0] at e1; cases e1; rw [ht1] at e2; cases e2; rw [hx0] at e3; cases e3; rw [hy0] at e4; cases e4; exact ⟨rfl, rfl⟩⟩) | exact sMid_normal (0, 0) (subCons rfl (subCons rfl (subCons rfl subNil))) (.refl _) (fun h => (by rw [hc4] at h; cases h))
        · rintro ⟨a, b⟩ hab
          dsimp only at hab ⊢
          have hR : ¬ (num = true ∧ notInt ts ts.length 0 ≥ 0) := fun h => (by have := (hab h.1).1; omega)
          have hres : applyR symB many num ts R = R := by unfold applyR; rw [hnone]; dsimp only; rw [if_neg hm, if_neg hR]
          refine s_seq ?_
          refine s_ops ?_
          refine o_fad rfl rfl ?_
          refine o_ld1 rfl (.tail _ (.head _)) fe3 rfl ?_
          refine o_ld (own := true) (c := [.slice oa ts.length ca, I64 a, I64 b]) rfl (.head _) (by show 0 + 3 ≤ 3; exact Nat.le_refl _) rfl ?_
          refine o_call1 rfl (ha1 rfl) rfl (fun H1 hH1 => (hdo hnone hm2 a b hab k1 k2 k3 k4 k5 k6 H1 (hargs.mono hH1) (.of hH1 (by simp [hk1])) (.of hH1 (by simp [hk2])) (.of hH1 (by simp [hk3])) (.of hH1 (by simp [hk4])) (.of hH1 (by simp [hk5])) (.of hH1 (by simp [hk6]))).mono ?_)
          rintro v M2 ⟨rv, rfl, hnew⟩
          refine o_newz rfl (fun b80 => ?_)
          refine o_stN (M1 := []) (cn := [rv, I64 R.2.1, I64 R.2.2]) rfl rfl rfl rfl (by show 0 + 3 ≤ 3; exact Nat.le_refl _) (by rcases hnew with ⟨h, _⟩ | ⟨_, _, _, _, h, _⟩ <;> rw [h] <;> rfl) rfl ?_
          refine o_nil ?_
          refine sSeq_normal ?_
          refine s_seq ?_
          refine s_draw [true, true, true, true, true, true, true, true, false] rfl ?_
          refine o_fad rfl rfl ?_
          refine o_ld1 rfl (by first | exact .head _ | exact .tail _ (.head _) | exact .tail _ (.tail _ (.head _)) | exact .tail _ (.tail _ (.tail _ (.head _))) | exact .tail _ (.tail _ (.tail _ (.tail _ (.head _))))) rfl rfl ?_
          refine o_fad rfl rfl ?_
          refine o_ld1 rfl (by first | exact .head _ | exact .tail _ (.head _) | exact .tail _ (.tail _ (.head _)) | exact .tail _ (.tail _ (.tail _ (.head _))) | exact .tail _ (.tail _ (.tail _ (.tail _ (.head _))))) rfl rfl ?_
          refine o_fad rfl rfl ?_
          refine o_ld1 rfl (by first | exact .head _ | exact .tail _ (.head _) | exact .tail _ (.tail _ (.head _)) | exact .tail _ (.tail _ (.tail _ (.head _))) | exact .tail _ (.tail _ (.tail _ (.tail _ (.head _))))) rfl rfl ?_
          refine o_mov rfl rfl ?_
          refine o_mov rfl rfl ?_
          refine o_mov rfl rfl ?_
          refine o_nil ?_
          refine sSeq_normal ?_
          refine s_ret ?_
          refine sRet_ret [_, _, _] ⟨rfl, rfl, rfl, trivial⟩ ?_
          first | (exact ⟨_, (by rw [hres]; rfl), .inl ⟨rfl, (by rw [hres])⟩⟩; done) | exact ⟨rv, (by rw [hres]; rfl), (by rw [hres]; exact hnew.mono (fun x hx => List.mem_cons_of_mem _ (List.mem_append_left _ hx)))⟩

end Go.Proofs.YtfonnebpnobomaaDoor.W
namespace Go.Proofs.YtfonnebpnobomaaDoor.W
open Go Am code
set_option maxRecDepth 100000
set_option maxHeartbeats 4000000
set_option linter.unusedSimpArgs false
set_option linter.unusedVariables false
variable {E : Env} (hE : Has E)
variable (symB : ByteArray → Bool)

def In64 (z : Int) : Prop := -9223372036854775808 ≤ z ∧ z ≤ 9223372036854775807
instance (z : Int) : Decidable (In64 z) := inferInstanceAs (Decidable (_ ∧ _))
theorem w64_in {z : Int} (h : In64 z) : w64 z = z := wrap64 h.1 h.2
theorem numberR_t (z : Int) : numberR z true = ([mkInt z], 0, 0) := rfl
theorem numberR_f (z : Int) : numberR z false = ([], 0, 20) := rfl
theorem w64_eq (z : Int) : ∃ q : Int, w64 z = z - q * 18446744073709551616 ∧ In64 (w64 z) := by
  unfold w64 In64
  simp only [IntKind.wrap, IntKind.bits, IntKind.signed]
  simp
  refine ⟨⟨(z + 9223372036854775808) / 18446744073709551616, ?_⟩, ?_⟩ <;> split <;> omega
theorem sumR_eq {a b : Int} (ha : In64 a) (hb : In64 b) : sumR a b = numberR (a + b) (decide (In64 (a + b))) := by
  unfold sumR
  by_cases h : In64 (a + b)
  · rw [w64_in h]
    have : ((decide (a < 0) != decide (b < 0)) || (decide (a + b < 0) == decide (a < 0))) = true := by
      by_cases h1 : a < 0 <;> by_cases h2 : b < 0 <;> simp [h1, h2] <;> omega
    rw [this]; simp [h]
  · obtain ⟨q, h1, h2⟩ := w64_eq (a + b)
    have : ((decide (a < 0) != decide (b < 0)) || (decide (w64 (a + b) < 0) == decide (a < 0))) = false := by
      unfold In64 at *
      by_cases h3 : a < 0 <;> by_cases h4 : b < 0 <;> simp [h3, h4] <;> omega
    rw [this]; simp [h, numberR_f]
theorem diffR_eq {a b : Int} (ha : In64 a) (hb : In64 b) : diffR a b = numberR (a - b) (decide (In64 (a - b))) := by
  unfold diffR
  by_cases h : In64 (a - b)
  · rw [w64_in h]
    have : ((decide (a < 0) == decide (b < 0)) || (decide (a - b < 0) == decide (a < 0))) = true := by
      by_cases h1 : a < 0 <;> by_cases h2 : b < 0 <;> simp [h1, h2] <;> omega
    rw [this]; simp [h]
  · obtain ⟨q, h1, h2⟩ := w64_eq (a - b)
    have : ((decide (a < 0) == decide (b < 0)) || (decide (w64 (a - b) < 0) == decide (a < 0))) = false := by
      unfold In64 at *
      by_cases h3 : a < 0 <;> by_cases h4 : b < 0 <;> simp [h3, h4] <;> omega
    rw [this]; simp [h, numberR_f]
theorem prodR_eq (a b : Int) : prodR a b = numberR (a * b) (decide (a.natAbs * b.natAbs ≤ mostN a b)) := by
  unfold prodR
  by_cases h : a.natAbs * b.natAbs ≤ mostN a b
  · rw [w64_in (prod_exact h)]
  · simp [h, numberR_f]
theorem tdiv_in {x y : Int} (hx : In64 x) (hy : y ≠ 0) (hl : ¬ (x = -9223372036854775808 ∧ y = -1)) : In64 (x.tdiv y) := by
  have e := Int.natAbs_tdiv x y
  have h1 : (x.tdiv y).natAbs ≤ x.natAbs := by rw [e]; exact Nat.div_le_self _ _
  unfold In64 at *
  by_cases h2 : y.natAbs = 1
  · rcases Int.natAbs_eq y with h3 | h3
    · rw [h2] at h3; rw [h3]; simp; omega
    · rw [h2] at h3; rw [h3]; simp; omega
  · have h4 : 2 ≤ y.natAbs := by omega
    have h5 : x.natAbs / y.natAbs ≤ x.natAbs / 2 := Nat.div_le_div_left h4 (by omega)
    have e' : (x.tdiv y).natAbs = x.natAbs / y.natAbs := e
    omega
theorem quoR_eq {x y : Int} (hx : In64 x) (hy : y ≠ 0) : quoR x y = numberR (x.tdiv y) (!(x == -9223372036854775808 && y == -1)) := by
  unfold quoR
  rw [if_neg hy]
  by_cases hl : x = -9223372036854775808 ∧ y = -1
  · obtain ⟨rfl, rfl⟩ := hl; rfl
  · rw [w64_in (tdiv_in hx hy hl)]
    have : (x != -9223372036854775808 || y != -1) = (!(x == -9223372036854775808 && y == -1)) := by
      cases h1 : (x == -9223372036854775808) <;> cases h2 : (y == -1) <;> simp [bne, h1, h2]
    rw [this]
theorem remR_eq {x y : Int} (hy : y ≠ 0) : remR x y = ([mkInt (x.tmod y)], 0, 0) := by
  unfold remR; rw [if_neg hy]; rfl
/-! the law's numbers -/
theorem back1 {x y : Int} (hx : In64 x) (hy : In64 y) (h0 : y ≠ 0) (hl : ¬ (x = -9223372036854775808 ∧ y = -1)) : prodR (x.tdiv y) y = ([mkInt (x.tdiv y * y)], 0, 0) := by
  obtain ⟨h1, h2, h3, h4, h5, h6, h7⟩ := quoRem x y h0
  rw [prodR_eq]
  have : (x.tdiv y).natAbs * y.natAbs ≤ mostN (x.tdiv y) y := by
    unfold In64 at hx
    exact fits_of (by omega) (by omega)
  rw [decide_eq_true this, numberR_t]
theorem back2 {x y : Int} (hx : In64 x) (h0 : y ≠ 0) : sumR (x.tdiv y * y) (x.tmod y) = ([mkInt x], 0, 0) := by
  obtain ⟨h1, h2, h3, h4, h5, h6, h7⟩ := quoRem x y h0
  have hm : (x.tmod y).natAbs ≤ x.natAbs := by rw [Int.natAbs_tmod]; exact Nat.mod_le _ _
  unfold In64 at hx
  rw [sumR_eq (by unfold In64; omega) (by unfold In64; omega), ← h1]
  have : In64 x := hx
  simp [this, numberR_t]
theorem back3 {x y : Int} (hx : In64 x) (hy : In64 y) (hs : In64 (x + y)) : diffR (x + y) y = ([mkInt x], 0, 0) := by
  rw [diffR_eq hs hy, show x + y - y = x by omega]; simp [hx, numberR_t]
theorem back4 {x y : Int} (hx : In64 x) (hy : In64 y) (hs : In64 (x - y)) : sumR (x - y) y = ([mkInt x], 0, 0) := by
  rw [sumR_eq hs hy, show x - y + y = x by omega]; simp [hx, numberR_t]
theorem back5 {x y : Int} (hx : In64 x) (hy : y ≠ 0) (h1 : y ≠ -1) (hp : In64 (x * y)) : quoR (x * y) y = ([mkInt x], 0, 0) := by
  rw [quoR_eq hp hy, Int.mul_tdiv_cancel _ hy]
  have : (y == -1) = false := by simpa using h1
  rw [this]; simp [numberR_t]
theorem mod2 (x y : Int) : x / 2 + y / 2 + (x % 2) * (y % 2) = (x + y) / 2 := by
  rcases Int.emod_two_eq x with h | h <;> rcases Int.emod_two_eq y with k | k <;> rw [h, k] <;> omega
theorem and64 (x y : Int) : ∃ w : Int, binV .and (I64 x) (I64 y) = some (I64 w) ∧ binV .and (I64 w) (I64 1) = some (I64 ((x % 2) * (y % 2))) := by
  refine ⟨IntKind.wrap .i64 (((BitVec.ofInt 64 x &&& BitVec.ofInt 64 y).toNat : Nat) : Int), rfl, ?_⟩
  show some (I64 (IntKind.wrap .i64 (((BitVec.ofInt 64 (IntKind.wrap .i64 (((BitVec.ofInt 64 x &&& BitVec.ofInt 64 y).toNat : Nat) : Int)) &&& BitVec.ofInt 64 1).toNat : Nat) : Int))) = _
  have h1 : ∀ z : Int, BitVec.ofInt 64 (IntKind.wrap .i64 z) = BitVec.ofInt 64 z := by
    intro z
    obtain ⟨q, h, _⟩ := w64_eq z
    have h' : IntKind.wrap .i64 z = z - q * 18446744073709551616 := h
    rw [h']
    apply BitVec.eq_of_toNat_eq
    rw [BitVec.toNat_ofInt, BitVec.toNat_ofInt]
    congr 1
    simp
  rw [h1]
  have h2 : (BitVec.ofInt 64 (((BitVec.ofInt 64 x &&& BitVec.ofInt 64 y).toNat : Nat) : Int) &&& BitVec.ofInt 64 1).toNat = ((BitVec.ofInt 64 x).toNat % 2) * ((BitVec.ofInt 64 y).toNat % 2) := by
    have e1 : BitVec.ofInt 64 (((BitVec.ofInt 64 x &&& BitVec.ofInt 64 y).toNat : Nat) : Int) = BitVec.ofInt 64 x &&& BitVec.ofInt 64 y := by
      apply BitVec.eq_of_toNat_eq
      rw [BitVec.toNat_ofInt]
      have := (BitVec.ofInt 64 x &&& BitVec.ofInt 64 y).isLt
      omega
    rw [e1, BitVec.toNat_and, BitVec.toNat_and]
    have e2 : (BitVec.ofInt 64 1).toNat = 1 := by decide
    rw [e2, Nat.and_one_is_mod]
    have e3 := Nat.and_mod_two_pow (a := (BitVec.ofInt 64 x).toNat) (b := (BitVec.ofInt 64 y).toNat) (n := 1)
    rw [Nat.pow_one] at e3
    rw [e3]
    rcases Nat.mod_two_eq_zero_or_one (BitVec.ofInt 64 x).toNat with h | h <;> rcases Nat.mod_two_eq_zero_or_one (BitVec.ofInt 64 y).toNat with k | k <;> rw [h, k] <;> rfl
  rw [h2]
  have h3 : ∀ z : Int, (((BitVec.ofInt 64 z).toNat % 2 : Nat) : Int) = z % 2 := by
    intro z
    rw [BitVec.toNat_ofInt]
    omega
  rw [Int.natCast_mul, h3, h3, wrap64]
  · rcases Int.emod_two_eq x with h | h <;> rcases Int.emod_two_eq y with k | k <;> rw [h, k] <;> decide
  · rcases Int.emod_two_eq x with h | h <;> rcases Int.emod_two_eq y with k | k <;> rw [h, k] <;> decide


theorem NewL.arg {H0 H : Hp} {S : List Nat} {M : Ms} {rv : Value} {t : List Node} (h : St H0 S H M) (hn : NewL rv t M) (ht : TermOK t) : ArgIs H rv t := by
  refine ⟨?_, ht⟩
  rcases hn with ⟨rfl, rfl⟩ | ⟨b, sp, cap, row, rfl, hm, hle, rest, rfl⟩
  · exact ⟨none, 0, rfl, Nat.le_refl _, ⟨fun e he => (by cases he), fun he => absurd rfl he⟩⟩
  · obtain ⟨h1, h2, _⟩ := h.here _ _ hm
    exact ⟨_, cap, rfl, hle, SlE.own (fun e he => by obtain ⟨x, _, rfl⟩ := List.mem_map.1 he; rfl) h2 h1⟩
theorem args2 {H0 H : Hp} {S : List Nat} {M : Ms} {b : Nat} {v w : Value} {t u : List Node} (h : St H0 S H M) (hb : (b, Blk.row [v, w] true) ∈ M) (h1 : NewL v t M) (h2 : NewL w u M) (k1 : TermOK t) (k2 : TermOK u) : ArgsIs H (some ⟨b, 0, some 0⟩) [v, w] [t, u] := by
  obtain ⟨g1, g2, _⟩ := h.here _ _ hb
  refine ⟨SlE.own (rest := []) (fun e he => ?_) g2 (by simpa using g1), rfl, fun i sv t' e1 e2 => ?_⟩
  · simp at he; rcases he with rfl | rfl <;> rfl
  · match i with
    | 0 => simp at e1 e2; subst e1 e2; exact h1.arg h k1
    | 1 => simp at e1 e2; subst e1 e2; exact h2.arg h k2
    | i + 2 => simp at e1
theorem args1 {H0 H : Hp} {S : List Nat} {M : Ms} {b : Nat} {v : Value} {t : List Node} (h : St H0 S H M) (hb : (b, Blk.row [v] true) ∈ M) (h1 : NewL v t M) (k1 : TermOK t) : ArgsIs H (some ⟨b, 0, some 0⟩) [v] [t] := by
  obtain ⟨g1, g2, _⟩ := h.here _ _ hb
  refine ⟨SlE.own (rest := []) (fun e he => ?_) g2 (by simpa using g1), rfl, fun i sv t' e1 e2 => ?_⟩
  · simp at he; subst he; rfl
  · match i with
    | 0 => simp at e1 e2; subst e1 e2; exact h1.arg h k1
    | i + 1 => simp at e1
theorem NewL.one {rv : Value} {t : List Node} {M : Ms} (h : NewL rv t M) : oneCell rv = true := by
  rcases h with ⟨h, _⟩ | ⟨_, _, _, _, h, _⟩ <;> rw [h] <;> rfl
/-! the table's entries -/
theorem ba_self (s : ByteArray) : (s == s) = true := by
  cases s with
  | mk d => exact beq_self_eq_true d
theorem lookP_split {s : ByteArray} {v : Value} : ∀ {a : List (ByteArray × Value)} {b : List (ByteArray × Value)}, lookP s a = none → lookP s (a ++ (s, v) :: b) = some v := by
  intro a
  induction a with
  | nil => intro b _; show (if (s == s) = true then some v else lookP s b) = _; rw [if_pos (ba_self s)]
  | cons p a ih =>
    intro b h
    rw [List.cons_append]
    unfold lookP at h ⊢
    split at h
    · cases h
    · rename_i hp
      rw [if_neg hp]; exact ih h
theorem table_at (k1 k2 k3 k4 k5 k6 : Nat) {i : Nat} (hi : i < 18) {e : List Value} {nm : ByteArray} (he : (table k1 k2 k3 k4 k5 k6)[i]? = some e) (hn : nameOf e = nm) : lookP nm (psT (table k1 k2 k3 k4 k5 k6)) = some (.agg ⟨e⟩) := by
  have hlt : i < (table k1 k2 k3 k4 k5 k6).length := hi
  have hnm : names[i]? = some nm := by
    rw [← names_eq k1 k2 k3 k4 k5 k6, List.getElem?_map, he, Option.map_some, hn]
  have h0 := table_new k1 k2 k3 k4 k5 k6 hi hnm
  have hsp : table k1 k2 k3 k4 k5 k6 = (table k1 k2 k3 k4 k5 k6).take i ++ e :: (table k1 k2 k3 k4 k5 k6).drop (i + 1) := by
    rw [List.getElem?_eq_getElem hlt] at he
    cases he
    rw [← List.drop_eq_getElem_cons hlt, List.take_append_drop]
  have hps : psT (table k1 k2 k3 k4 k5 k6) = psT ((table k1 k2 k3 k4 k5 k6).take i) ++ (nm, .agg ⟨e⟩) :: psT ((table k1 k2 k3 k4 k5 k6).drop (i + 1)) := by
    conv => lhs; rw [hsp]
    unfold psT
    rw [List.map_append, List.map_cons, hn]
  rw [hps]
  exact lookP_split h0
/-! numbers as arguments -/
theorem ok_int (z : Int) : TermOK [mkInt z] := ⟨fun x hx => by simp at hx; subst hx; show (0 : Int) ≤ _; decide, by show 1 ≤ _; decide⟩
theorem sym_int (E : Env) (z : Int) : SymsOK E symB [mkInt z] := fun x hx => by
  simp at hx; subst hx; rintro (h | h) <;> cases h
theorem valErr_int (z : Int) : valErr symB [mkInt z] = 0 := by
  have hc : ∀ nm, check symB [mkInt z] nm = (0, 0) := by
    intro nm
    simp [check, chkGo, popZ, kindBad, mkInt, fieldsBad, numbersErr, rangeBad, nLow, nHigh, fN, fS, fT, fLeast, fMost, maxL, famFirst, familyErr]
  simp only [valErr, hc, valueAt, place, form]
  simp [isValue, mkInt]

include hE in
theorem call_spec (name : ByteArray) (av : Value) (r : List Node × Int × Int) (H : Hp) (h : ∀ H1, St H [] H1 [] → Sc E 13 [.string name, av] H1 [] fun v M => TupIs v r M) : Sc E 8 [.string name, av] H [] fun v M => ∃ rv, v = .tuple ⟨[rv, I64 r.2.2]⟩ ∧ NewL rv r.1 M := by
  refine sc_body hE.h8 rfl ?_
  show Ss E _ _ _ c8.body _ _ _
  unfold c8
  refine s_seq ?_
  refine s_ops ?_
  refine o_mov rfl rfl ?_
  refine o_mov rfl rfl ?_
  refine o_nil ?_
  refine sSeq_normal ?_
  refine s_seq ?_
  refine s_ops ?_
  refine o_mov rfl rfl ?_
  refine o_mov rfl rfl ?_
  refine o_call1 rfl (ha2 rfl rfl) rfl (fun H1 hH1 => (h H1 hH1).mono ?_)
  rintro v M1 ⟨rv, rfl, hnew⟩
  refine o_mov rfl rfl ?_
  refine o_ext rfl rfl rfl ?_
  refine o_ext rfl rfl rfl ?_
  refine o_ext rfl rfl rfl ?_
  refine o_mov rfl rfl ?_
  refine o_mov rfl rfl ?_
  refine o_mov rfl rfl ?_
  refine o_nil ?_
  refine sSeq_normal ?_
  refine s_seq ?_
  refine s_ops ?_
  refine o_mov rfl rfl ?_
  refine o_mov rfl rfl ?_
  refine o_mov rfl rfl ?_
  refine o_mov rfl rfl ?_
  refine o_nil ?_
  refine sSeq_normal ?_
  refine s_ret ?_
  refine sRet_ret [_, _] ⟨rfl, rfl, trivial⟩ ?_
  exact ⟨rv, rfl, hnew.mono (fun x hx => List.mem_append_left _ hx)⟩


include hE in
theorem num_spec {i : Nat} {nm : List UInt8} {gf : FuncId} (hi : i < 18) (he : ∀ k1 k2 k3 k4 k5 k6, (table k1 k2 k3 k4 k5 k6)[i]? = some (entry nm 2 true (fnV gf))) (x y : Int) (R : List Node × Int × Int) (hspec : ∀ sv, oneCell sv = true → ∀ H, Sc E gf [.agg ⟨[sv, I64 x, I64 y]⟩] H [] fun v M => ResIs v R M)
    (oa : Option Addr) (ca : Nat) (svs : List Value) (H : Hp) (hargs : ArgsIs H oa svs [[mkInt x], [mkInt y]]) : Sc E 8 [.string ⟨⟨nm⟩⟩, .slice oa 2 ca] H [] fun v M => ∃ rv, v = .tuple ⟨[rv, I64 R.2.2]⟩ ∧ NewL rv R.1 M := by
  have hb : badArg (fun _ => false) [[mkInt x], [mkInt y]] 2 0 = none := by simp [badArg, valErr_int]
  have hn : notInt [[mkInt x], [mkInt y]] 2 0 = -1 := by simp [notInt, mkInt]
  have hR : applyR (fun _ => false) 2 true [[mkInt x], [mkInt y]] R = R := by
    unfold applyR
    rw [show ([[mkInt x], [mkInt y]] : List (List Node)).length = 2 from rfl, hb, hn]
    simp
  refine call_spec hE ⟨⟨nm⟩⟩ (.slice oa 2 ca) R H (fun H1 hH1 => ?_)
  rw [← hR]
  refine Apply_spec hE (fun _ => false) ⟨⟨nm⟩⟩ [[mkInt x], [mkInt y]] svs oa ca H1 (by show 2 ≤ _; decide) (hargs.mono hH1) (fun t ht => ?_) 2 true R gf (fun _ _ _ _ _ _ => []) (fun _ => rfl) (fun k1 k2 k3 k4 k5 k6 => ⟨⟨⟨nm⟩⟩, table_at k1 k2 k3 k4 k5 k6 hi (he k1 k2 k3 k4 k5 k6) rfl⟩) ?_
  · simp at ht; rcases ht with rfl | rfl <;> exact sym_int (fun _ => false) E _
  · intro _ _ a b hab k1 k2 k3 k4 k5 k6 H2 _ _ _ _ _ _ _
    obtain ⟨h1, h2⟩ := (hab rfl).2 [mkInt x] [mkInt y] (mkInt x) (mkInt y) rfl rfl rfl rfl
    subst h1 h2
    exact hspec _ rfl H2
include hE in
theorem Equal_new {H0 H : Hp} {S : List Nat} {M : Ms} {v w : Value} {a b : List Node} (h : St H0 S H M) (ha : NewL v a M) (hb : NewL w b M) (hta : TermOK a) (htb : TermOK b) (hl : a.length ≤ 1000000000) : Sc E 11 [v, w] H [] fun v _ => v = .bool (eqFrom a b) := by
  obtain ⟨oa, ca, rfl, _, h1⟩ := (ha.arg h hta).is
  obtain ⟨ob, cb, rfl, _, h2⟩ := (hb.arg h htb).is
  exact Equal_spec hE a b hl H oa ob ca cb h1 h2
theorem eq_int (z : Int) : eqFrom [mkInt z] [mkInt z] = true := by simp [eqFrom, nodeEq, mkInt]

end Go.Proofs.YtfonnebpnobomaaDoor.W
namespace Go.Proofs.YtfonnebpnobomaaDoor.W
open Go Am code
set_option maxRecDepth 100000
set_option maxHeartbeats 4000000
set_option linter.unusedSimpArgs false
set_option linter.unusedVariables false
variable {E : Env} (hE : Has E)

theorem evB {L : Ls} {x : Operand} {w q r : Bool} (h : evL L x = some (gv w (.bool q))) (hw : w = true) (hq : q = r) : evL L x = some (.bool r) := by subst hq; rw [h, gv_true hw]
theorem fill2 {v w z1 z2 : Value} {t u : List Node} {M M2 : Ms} (h1 : NewL v t M) (h2 : NewL w u M2) : fillA [z1, z2] [(0, 1, v), (1, 1, w)] = some [v, w] := by
  obtain ⟨_, _, rfl⟩ := newL_len h1
  obtain ⟨_, _, rfl⟩ := newL_len h2
  rfl
theorem fill1 {v z1 : Value} {t : List Node} {M : Ms} (h1 : NewL v t M) : fillA [z1] [(0, 1, v)] = some [v] := by
  obtain ⟨_, _, rfl⟩ := newL_len h1
  rfl
theorem shr1 (a : Int) : binV .shr (I64 a) (.int .u64 1) = some (I64 (a / 2)) := by
  simp only [binV, IntKind.bits]
  rw [if_neg (by decide), Int.fdiv_eq_ediv_of_nonneg _ (by decide)]
  rfl
theorem binQuo {a b : Nat} (ha : a < 18446744073709551616) (hb : 0 < b) : binV .quo (.int .u64 (a : Int)) (.int .u64 (b : Int)) = some (.int .u64 ((a / b : Nat) : Int)) := by
  simp only [binV, binInt, if_true]
  rw [if_neg (by omega)]
  have : ((a : Int).tdiv (b : Int)) = ((a / b : Nat) : Int) := rfl
  have hle : a / b ≤ a := Nat.div_le_self _ _
  rw [this]
  generalize a / b = c at hle ⊢
  rw [wrapU (by omega) (by omega)]
theorem sizeR_abs (z : Int) : sizeR z = (z.natAbs : Int) := by unfold sizeR; split <;> omega
theorem cond_of {b : Bool} (h : ((cond b 0 20 : Int) == 0) = true) : b = true := by
  cases b
  · exact absurd h (by decide)
  · rfl
theorem numberR_e (z : Int) (b : Bool) : (numberR z b).2.2 = cond b 0 20 := by cases b <;> rfl
theorem half_in (x y : Int) : decide (In64 (x + y)) = (decide ((x + y) / 2 ≥ -4611686018427387904) && decide ((x + y) / 2 < 4611686018427387904)) := by
  generalize x + y = z
  have h : In64 z ↔ (z / 2 ≥ -4611686018427387904 ∧ z / 2 < 4611686018427387904) := by unfold In64; omega
  rw [← Bool.decide_and]
  exact decide_eq_decide.2 h
def Base (x y : Int) (b : Nat) (M : Ms) : Prop := ∃ vx vy, (b, Blk.row [vx, vy] true) ∈ M ∧ NewL vx [mkInt x] M ∧ NewL vy [mkInt y] M
theorem Base.mono {x y : Int} {b : Nat} {M M' : Ms} (h : Base x y b M) (hs : ∀ z ∈ M, z ∈ M') : Base x y b M' := by
  obtain ⟨vx, vy, h1, h2, h3⟩ := h
  exact ⟨vx, vy, hs _ h1, h2.mono hs, h3.mono hs⟩

include hE in
theorem PrimsNumbers_spec (hawake : ∀ H, Sc E 9 [] H [] fun v _ => v = .bool true) (x y : Int) (hx : In64 x) (hy : In64 y) (H : Hp) : Sc E 3 [I64 x, I64 y] H [] fun v _ => v = .bool true := by
  refine sc_body hE.h3 rfl ?_
  show Ss E _ _ _ c3.body _ _ _
  unfold c3
  refine s_seq ?_
  refine s_ops ?_
  refine o_mov rfl rfl ?_
  refine o_nil ?_
  refine sSeq_normal ?_
  refine s_mid (α := Nat × Ms) (fun z => [(0, I64 x), (1, I64 y), (5, .slice (some ⟨z.1, 0, some 0⟩) 2 2)]) (fun z => z.2) (fun z => Base x y z.1 z.2) ?_ ?_
  · skip
    refine s_ops ?_
    refine o_mov rfl rfl ?_
    refine o_call1 rfl (ha1 rfl) rfl (fun H1 _ => (mkN_spec hE x H1).mono ?_)
    rintro vx M1 hn1
    refine o_mov rfl rfl ?_
    refine o_call1 rfl (ha1 rfl) rfl (fun H1 _ => (mkN_spec hE y H1).mono ?_)
    rintro vy M2 hn2
    refine o_lits (c := [vx, vy]) (fun F hF => by simp only [List.map, hF.ev (x := .tmp 26) rfl, hF.ev (x := .tmp 28) rfl]; exact fill2 hn1 hn2) rfl (fun b5 => ?_)
    refine o_mov rfl rfl ?_
    refine o_nil ?_
    exact sMid_normal (b5, _) (subCons rfl (subCons rfl (subCons rfl subNil))) (.refl _) ⟨vx, vy, .head _, hn1.mono (fun z hz => by simp [hz]), hn2.mono (fun z hz => by simp [hz])⟩
  · rintro ⟨b, M⟩ hbase
    dsimp only at hbase ⊢
    obtain ⟨vx, vy, hbm, hnx, hny⟩ := id hbase
    refine s_seq ?_
    refine s_ops ?_
    refine o_mov rfl rfl ?_
    refine o_call1 rfl (ha2 rfl rfl) rfl (fun H1 hH1 => (num_spec hE (i := 3) (nm := [113, 117, 111, 116, 105, 101, 110, 116]) (by decide) (fun _ _ _ _ _ _ => rfl) (x) (y) (quoR x y) (fun sv hsv H => quotient_spec hE sv hsv (x) (y) H) (some ⟨b, 0, some 0⟩) 2 [vx, vy] H1 (args2 hH1 (by first | exact hbm | simp [hbm]) (hnx.mono (fun z hz => by first | exact hz | simp [hz])) (hny.mono (fun z hz => by first | exact hz | simp [hz])) (ok_int x) (ok_int y))).mono ?_)
    rintro v Mq ⟨qv, rfl, hq⟩
    refine o_mov rfl rfl ?_
    refine o_ext rfl rfl rfl ?_
    refine o_ext rfl rfl rfl ?_
    refine o_mov rfl rfl ?_
    refine o_mov rfl rfl ?_
    refine o_nil ?_
    refine sSeq_normal ?_
    refine s_seq ?_
    refine s_ops ?_
    refine o_mov rfl rfl ?_
    refine o_call1 rfl (ha2 rfl rfl) rfl (fun H1 hH1 => (num_spec hE (i := 4) (nm := [114, 101, 109, 97, 105, 110, 100, 101, 114]) (by decide) (fun _ _ _ _ _ _ => rfl) (x) (y) (remR x y) (fun sv hsv H => remainder_spec hE sv hsv (x) (y) H) (some ⟨b, 0, some 0⟩) 2 [vx, vy] H1 (args2 hH1 (by first | exact hbm | simp [hbm]) (hnx.mono (fun z hz => by first | exact hz | simp [hz])) (hny.mono (fun z hz => by first | exact hz | simp [hz])) (ok_int x) (ok_int y))).mono ?_)
    rintro v Mr ⟨rv, rfl, hr⟩
    refine o_mov rfl rfl ?_
    refine o_ext rfl rfl rfl ?_
    refine o_ext rfl rfl rfl ?_
    refine o_mov rfl rfl ?_
    refine o_mov rfl rfl ?_
    refine o_nil ?_
    refine sSeq_normal ?_
    refine s_seq ?_
    refine s_seq ?_
    refine s_ops ?_
    refine o_mov rfl rfl ?_
    refine o_bin rfl rfl rfl rfl ?_
    refine o_nil ?_
    refine sSeq_normal ?_
    refine s_cond rfl (fun hc0 => ?_) (fun hc0 => ?_)
    · have hy0 : y = 0 := by simpa using hc0
      have e1 : (quoR x y).2.2 = 21 := by unfold quoR; rw [if_pos hy0]
      have e2 : (remR x y).2.2 = 21 := by unfold remR; rw [if_pos hy0]
      rw [e1, e2]
      refine s_seq ?_
      refine s_ops ?_
      refine o_mov rfl rfl ?_
      refine o_bin rfl rfl rfl rfl ?_
      refine o_mov rfl rfl ?_
      refine g_mov (by first | exact wanted_b rfl | exact wanted_g rfl) (by first | exact evG rfl | exact evG2 rfl | exact evG3 rfl | exact fun _ => rfl) rfl ?_
      refine g_bin (by first | exact wanted_b rfl | exact wanted_g rfl) (by first | exact evG rfl | exact evG2 rfl | exact evG3 rfl | exact fun _ => rfl) (by first | exact evG rfl | exact evG2 rfl | exact evG3 rfl | exact fun _ => rfl) (fun _ => rfl) rfl ?_
      refine o_pickB rfl (by first | exact fun h => evG rfl (by rw [h]; rfl) | exact fun _ => rfl) (by first | exact fun h => evG rfl (by rw [h]; rfl) | exact fun _ => rfl) rfl ?_
      refine o_mov rfl rfl ?_
      refine g_call0 (by first | exact wanted_b rfl | exact wanted_g rfl) rfl (fun _ => ha0) rfl (fun _ H1 _ => hawake H1) ?_
      refine o_pickB rfl (by first | exact fun h => evG rfl (by rw [h]; rfl) | exact fun _ => rfl) (by first | exact fun h => evG rfl (by rw [h]; rfl) | exact fun _ => rfl) rfl ?_
      refine o_mov rfl rfl ?_
      refine o_nil ?_
      refine sSeq_normal ?_
      refine s_ret ?_
      refine sSeq_ret ?_
      refine sRet_ret [_] ⟨rfl, trivial⟩ ?_
      rfl
    · have hy0 : y ≠ 0 := by simpa using hc0
      obtain ⟨ls, hls⟩ : ∃ ls : Bool, ls = (x == -9223372036854775808 && y == -1) := ⟨_, rfl⟩
      have hqR := quoR_eq hx hy0
      rw [← hls] at hqR
      have hrR := remR_eq (x := x) hy0
      have e1 : (quoR x y).2.2 = cond ls 20 0 := by rw [hqR]; cases ls <;> rfl
      have e2 : (remR x y).2.2 = 0 := by rw [hrR]
      rw [e1, e2]
      rw [hrR] at hr
      obtain ⟨q1, q2, q3, q4, q5, q6, q7⟩ := quoRem x y hy0
      have hx2 := hx
      have hy2 := hy
      unfold In64 at hx2 hy2
      have hmx : (x.tmod y).natAbs ≤ x.natAbs := by rw [Int.natAbs_tmod]; exact Nat.mod_le _ _
      have hsz : sizeR (x.tmod y) < sizeR y := by rw [sizeR_abs, sizeR_abs]; omega
      have hsg : x.tmod y ≠ 0 → (decide (x.tmod y < 0) != decide (x < 0)) = false := fun h => by
        by_cases h1 : x.tmod y < 0
        · have : x < 0 := by omega
          simp [h1, this]
        · have : ¬ x < 0 := by omega
          simp [h1, this]
      refine s_skip ?_
      refine sSeq_normal ?_
      refine s_mid (α := Nat × Ms × Value × Value) (fun z => [(0, I64 x), (1, I64 y), (5, .slice (some ⟨z.1, 0, some 0⟩) 2 2), (6, z.2.2.1), (7, I64 (cond ls 20 0)), (8, z.2.2.2), (9, I64 0), (10, .bool ls)]) (fun z => z.2.1) (fun z => Base x y z.1 z.2.1 ∧ NewL z.2.2.1 (quoR x y).1 z.2.1 ∧ NewL z.2.2.2 [mkInt (x.tmod y)] z.2.1) ?_ ?_
      · skip
        refine s_ops ?_
        refine o_mov rfl rfl ?_
        refine o_bin rfl rfl rfl rfl ?_
        refine o_mov rfl rfl ?_
        refine g_mov (by first | exact wanted_b rfl | exact wanted_g rfl) (by first | exact evG rfl | exact evG2 rfl | exact evG3 rfl | exact fun _ => rfl) rfl ?_
        refine g_bin (by first | exact wanted_b rfl | exact wanted_g rfl) (by first | exact evG rfl | exact evG2 rfl | exact evG3 rfl | exact fun _ => rfl) (by first | exact evG rfl | exact evG2 rfl | exact evG3 rfl | exact fun _ => rfl) (fun _ => rfl) rfl ?_
        refine o_pickB rfl (by first | exact fun h => evG rfl (by rw [h]; rfl) | exact fun _ => rfl) (by first | exact fun h => evG rfl (by rw [h]; rfl) | exact fun _ => rfl) rfl ?_
        refine o_mov rfl rfl ?_
        refine o_nil ?_
        exact sMid_normal (b, _, qv, rv) (subCons rfl (subCons rfl (subCons rfl (subCons rfl (subCons rfl (subCons rfl (subCons rfl (subEq rfl (by rw [hls]; cases (x == -9223372036854775808) <;> rfl) subNil)))))))) (.refl _) ⟨hbase.mono (fun z hz => by first | exact hz | simp [hz]), hq.mono (fun z hz => by first | exact hz | simp [hz]), hr.mono (fun z hz => by first | exact hz | simp [hz])⟩
      · clear hbm hnx hny hq hr hbase
        rintro ⟨b, M, qv, rv⟩ ⟨hbase, hq, hr⟩
        dsimp only at hbase hq hr ⊢
        obtain ⟨vx, vy, hbm, hnx, hny⟩ := id hbase
        have hr0 := hr
        rcases hr with ⟨_, h⟩ | ⟨br, spr, cr, rowr, rfl, hmr, hler, restr, rfl⟩
        · cases h
        refine s_seq ?_
        refine s_seq ?_
        refine s_ops ?_
        refine o_mov rfl rfl ?_
        refine o_bin rfl rfl rfl rfl ?_
        refine o_mov rfl rfl ?_
        refine g_mov (by first | exact wanted_b rfl | exact wanted_g rfl) (by first | exact evG rfl | exact evG2 rfl | exact evG3 rfl | exact fun _ => rfl) rfl ?_
        refine g_lnl (by first | exact wanted_b rfl | exact wanted_g rfl) (by first | exact evG rfl | exact evG2 rfl | exact evG3 rfl | exact fun _ => rfl) rfl ?_
        refine g_bin (by first | exact wanted_b rfl | exact wanted_g rfl) (by first | exact evG rfl | exact evG2 rfl | exact evG3 rfl | exact fun _ => rfl) (by first | exact evG rfl | exact evG2 rfl | exact evG3 rfl | exact fun _ => rfl) (fun _ => rfl) rfl ?_
        refine o_pickB rfl (by first | exact fun h => evG rfl (by rw [h]; rfl) | exact fun _ => rfl) (by first | exact fun h => evG rfl (by rw [h]; rfl) | exact fun _ => rfl) rfl ?_
        refine o_mov rfl rfl ?_
        refine g_mov (by first | exact wanted_b rfl | exact wanted_g rfl) (by first | exact evG rfl | exact evG2 rfl | exact evG3 rfl | exact fun _ => rfl) rfl ?_
        refine g_bin (by first | exact wanted_b rfl | exact wanted_g rfl) (by first | exact evG rfl | exact evG2 rfl | exact evG3 rfl | exact fun _ => rfl) (by first | exact evG rfl | exact evG2 rfl | exact evG3 rfl | exact fun _ => rfl) (fun _ => rfl) rfl ?_
        refine g_mov (by first | exact wanted_b rfl | exact wanted_g rfl) (by first | exact evG rfl | exact evG2 rfl | exact evG3 rfl | exact fun _ => rfl) rfl ?_
        refine g_eqb (by first | exact wanted_b rfl | exact wanted_g rfl) (by first | exact evG rfl | exact evG2 rfl | exact evG3 rfl | exact fun _ => rfl) (by first | exact evG rfl | exact evG2 rfl | exact evG3 rfl | exact fun _ => rfl) rfl ?_
        refine o_pickB rfl (by first | exact fun h => evG rfl (by rw [h]; rfl) | exact fun _ => rfl) (by first | exact fun h => evG rfl (by rw [h]; rfl) | exact fun _ => rfl) rfl ?_
        refine o_mov rfl rfl ?_
        refine g_mov (by first | exact wanted_b rfl | exact wanted_g rfl) (by first | exact evG rfl | exact evG2 rfl | exact evG3 rfl | exact fun _ => rfl) rfl ?_
        refine g_not (by first | exact wanted_b rfl | exact wanted_g rfl) (by first | exact evG rfl | exact evG2 rfl | exact evG3 rfl | exact fun _ => rfl) rfl ?_
        refine g_mov (by first | exact wanted_b rfl | exact wanted_g rfl) (by first | exact evG rfl | exact evG2 rfl | exact evG3 rfl | exact fun _ => rfl) rfl ?_
        refine g_mov (by first | exact wanted_b rfl | exact wanted_g rfl) (by first | exact evG rfl | exact evG2 rfl | exact evG3 rfl | exact fun _ => rfl) rfl ?_
        refine g_bin (by first | exact wanted_b rfl | exact wanted_g rfl) (by first | exact evG rfl | exact evG2 rfl | exact evG3 rfl | exact fun _ => rfl) (by first | exact evG rfl | exact evG2 rfl | exact evG3 rfl | exact fun _ => rfl) (fun _ => rfl) rfl ?_
        refine g_pick (by first | exact wanted_b rfl | exact wanted_g rfl) (by first | exact evG rfl | exact evG2 rfl | exact evG3 rfl | exact fun _ => rfl) (by first | exact fun hw h => evG rfl (by rw [hw, h]; rfl) | exact fun _ _ => rfl | exact fun hw _ => evG rfl hw) (by first | exact fun hw h => evG rfl (by rw [hw, h]; rfl) | exact fun _ _ => rfl | exact fun hw _ => evG rfl hw) rfl ?_
        refine o_pickB rfl (by first | exact fun h => evG rfl (by rw [h]; rfl) | exact fun _ => rfl) (by first | exact fun h => evG rfl (by rw [h]; rfl) | exact fun _ => rfl) rfl ?_
        refine o_nil ?_
        refine sSeq_normal ?_
        refine s_cond rfl (fun hc1 => ?_) (fun hc1 => ?_)
        · exact absurd hc1 (by rw [show ([mkInt (x.tmod y)] : List Node).length = 1 from rfl]; cases ls <;> decide)
          done
        · skip
          refine s_skip ?_
          refine sSeq_normal ?_
          refine s_seq ?_
          refine s_ops ?_
          refine o_mov rfl rfl ?_
          refine o_iad (i := 0) rfl rfl (by show 0 < 1; decide) rfl rfl ?_
          refine o_fad rfl rfl ?_
          refine o_ld1 (v := I64 (x.tmod y)) rfl hmr rfl rfl ?_
          refine o_mov rfl rfl ?_
          refine o_nil ?_
          refine sSeq_normal ?_
          refine s_seq ?_
          refine s_seq ?_
          refine s_ops ?_
          refine o_mov rfl rfl ?_
          refine o_bin rfl rfl rfl rfl ?_
          refine o_mov rfl rfl ?_
          refine g_mov (by first | exact wanted_b rfl | exact wanted_g rfl) (by first | exact evG rfl | exact evG2 rfl | exact evG3 rfl | exact fun _ => rfl) rfl ?_
          refine g_bin (by first | exact wanted_b rfl | exact wanted_g rfl) (by first | exact evG rfl | exact evG2 rfl | exact evG3 rfl | exact fun _ => rfl) (by first | exact evG rfl | exact evG2 rfl | exact evG3 rfl | exact fun _ => rfl) (fun _ => rfl) rfl ?_
          refine g_mov (by first | exact wanted_b rfl | exact wanted_g rfl) (by first | exact evG rfl | exact evG2 rfl | exact evG3 rfl | exact fun _ => rfl) rfl ?_
          refine g_bin (by first | exact wanted_b rfl | exact wanted_g rfl) (by first | exact evG rfl | exact evG2 rfl | exact evG3 rfl | exact fun _ => rfl) (by first | exact evG rfl | exact evG2 rfl | exact evG3 rfl | exact fun _ => rfl) (fun _ => rfl) rfl ?_
          refine g_eqb (by first | exact wanted_b rfl | exact wanted_g rfl) (by first | exact evG rfl | exact evG2 rfl | exact evG3 rfl | exact fun _ => rfl) (by first | exact evG rfl | exact evG2 rfl | exact evG3 rfl | exact fun _ => rfl) rfl ?_
          refine o_pick (v := .bool false) rfl (fun h => evB rfl (by simpa using h) (by have := hsg (by simpa using h); simpa using this)) (fun _ => rfl) rfl ?_
          refine o_mov rfl rfl ?_
          refine g_on (wantedT rfl rfl) ?_
          refine o_mov rfl rfl ?_
          refine g_on (wantedT rfl rfl) ?_
          refine o_call0 (v := .int .u64 (sizeR (x.tmod y))) rfl (ha1 rfl) rfl (fun H1 _ => size_spec hE _ (by omega) (by omega) H1) ?_
          refine g_on (wantedT rfl rfl) ?_
          refine o_mov rfl rfl ?_
          refine g_on (wantedT rfl rfl) ?_
          refine o_call0 (v := .int .u64 (sizeR y)) rfl (ha1 rfl) rfl (fun H1 _ => size_spec hE _ (by omega) (by omega) H1) ?_
          refine g_on (wantedT rfl rfl) ?_
          refine o_bin rfl rfl rfl rfl ?_
          refine o_pickB rfl (by first | exact fun h => evG rfl (by rw [h]; rfl) | exact fun _ => rfl) (by first | exact fun h => evG rfl (by rw [h]; rfl) | exact fun _ => rfl) rfl ?_
          refine o_nil ?_
          refine sSeq_normal ?_
          refine s_cond rfl (fun hc2 => ?_) (fun hc2 => ?_)
          · exfalso
            simp at hc2
            omega
            done
          · skip
            refine s_skip ?_
            refine sSeq_normal ?_
            refine s_mid (α := Nat × Ms) (fun z => [(0, I64 x), (1, I64 y), (5, .slice (some ⟨z.1, 0, some 0⟩) 2 2)]) (fun z => z.2) (fun z => Base x y z.1 z.2) ?_ ?_
            · skip
              refine s_seq ?_
              refine s_ops ?_
              refine o_mov rfl rfl ?_
              refine o_un rfl rfl rfl ?_
              refine o_nil ?_
              refine sSeq_normal ?_
              refine s_cond rfl (fun hc3 => ?_) (fun hc3 => ?_)
              · have hls0 : ls = false := by simpa using hc3
                have hl : ¬ (x = -9223372036854775808 ∧ y = -1) := fun h => by
                  rw [hls, h.1, h.2] at hls0; cases hls0
                have hqq := tdiv_in hx hy0 hl
                have hqR1 : (quoR x y).1 = [mkInt (x.tdiv y)] := by rw [hqR, hls0]; rfl
                rw [hqR1] at hq
                refine s_seq ?_
                refine s_ops ?_
                refine o_mov rfl rfl ?_
                refine o_mov rfl rfl ?_
                refine o_call1 rfl (ha1 rfl) rfl (fun H1 _ => (mkN_spec hE y H1).mono ?_)
                rintro w1 N1 hw1
                refine o_lits (c := [qv, w1]) (fun F hF => by simp only [List.map, hF.ev (x := .tmp 101) rfl, hF.ev (x := .tmp 103) rfl]; exact fill2 hq hw1) rfl (fun b89 => ?_)
                refine o_call1 rfl (ha2 rfl rfl) rfl (fun H1 hH1 => (num_spec hE (i := 2) (nm := [42]) (by decide) (fun _ _ _ _ _ _ => rfl) (x.tdiv y) (y) (([mkInt (x.tdiv y * y)], 0, 0)) (fun sv hsv H => by have h := product_spec hE sv hsv (x.tdiv y) (y) hqq.1 hqq.2 hy.1 hy.2 H; rw [back1 hx hy hy0 hl] at h; exact h) (some ⟨b89, 0, some 0⟩) 2 [qv, w1] H1 (args2 hH1 (.head _) (hq.mono (fun z hz => by simp [hz])) (hw1.mono (fun z hz => by simp [hz])) (ok_int _) (ok_int _))).mono ?_)
                rintro v N90 ⟨r90, rfl, hr90⟩
                rw [show (([mkInt (x.tdiv y * y)], 0, 0) : List Node × Int × Int).2.2 = 0 from rfl]
                refine o_mov rfl rfl ?_
                refine o_ext rfl rfl rfl ?_
                refine o_ext rfl rfl rfl ?_
                refine o_mov rfl rfl ?_
                refine o_mov rfl rfl ?_
                refine o_nil ?_
                refine sSeq_normal ?_
                refine s_seq ?_
                refine s_seq ?_
                refine s_ops ?_
                refine o_mov rfl rfl ?_
                refine o_bin rfl rfl rfl rfl ?_
                refine o_nil ?_
                refine sSeq_normal ?_
                refine s_cond rfl (fun hc4 => ?_) (fun hc4 => ?_)
                · exact absurd hc4 (by decide)
                  done
                · skip
                  refine s_skip ?_
                  refine sSeq_normal ?_
                  refine s_seq ?_
                  refine s_ops ?_
                  refine o_mov rfl rfl ?_
                  refine o_mov rfl rfl ?_
                  refine o_lits (c := [r90, _]) (fun F hF => by simp only [List.map, hF.ev (x := .tmp 111) rfl, hF.ev (x := .tmp 112) rfl]; exact fill2 hr90 hr0) rfl (fun b101 => ?_)
                  refine o_call1 rfl (ha2 rfl rfl) rfl (fun H1 hH1 => (num_spec hE (i := 0) (nm := [43]) (by decide) (fun _ _ _ _ _ _ => rfl) (x.tdiv y * y) (x.tmod y) (([mkInt x], 0, 0)) (fun sv hsv H => by have h := sum_spec hE sv hsv (x.tdiv y * y) (x.tmod y) H; rw [back2 hx hy0] at h; exact h) (some ⟨b101, 0, some 0⟩) 2 [r90, _] H1 (args2 hH1 (.head _) (hr90.mono (fun z hz => by simp [hz])) (hr0.mono (fun z hz => by simp [hz])) (ok_int _) (ok_int _))).mono ?_)
                  rintro v N102 ⟨r102, rfl, hr102⟩
                  rw [show (([mkInt x], 0, 0) : List Node × Int × Int).2.2 = 0 from rfl]
                  refine o_mov rfl rfl ?_
                  refine o_ext rfl rfl rfl ?_
                  refine o_ext rfl rfl rfl ?_
                  refine o_mov rfl rfl ?_
                  refine o_mov rfl rfl ?_
                  refine o_nil ?_
                  refine sSeq_normal ?_
                  refine s_seq ?_
                  refine s_ops ?_
                  refine o_mov rfl rfl ?_
                  refine o_bin rfl rfl rfl rfl ?_
                  refine o_mov rfl rfl ?_
                  refine g_on (wantedT rfl rfl) ?_
                  refine o_mov rfl rfl ?_
                  refine g_on (wantedT rfl rfl) ?_
                  refine o_mov rfl rfl ?_
                  refine g_on (wantedT rfl rfl) ?_
                  refine o_call1 rfl (ha1 rfl) rfl (fun H1 _ => (mkN_spec hE x H1).mono ?_)
                  rintro wx Nx hwx
                  refine g_on (wantedT rfl rfl) ?_
                  refine o_call0 (v := .bool true) rfl (ha2 rfl rfl) rfl (fun H1 hH1 => by have h := Equal_new hE (a := [mkInt x]) (b := [mkInt x]) hH1 (hr102.mono (fun z hz => by simp [hz])) (hwx.mono (fun z hz => by simp [hz])) (ok_int x) (ok_int x) (by show 1 ≤ _; decide); rw [eq_int] at h; exact h) ?_
                  refine g_on (wantedT rfl rfl) ?_
                  refine o_un rfl rfl rfl ?_
                  refine o_pickB rfl (by first | exact fun h => evG rfl (by rw [h]; rfl) | exact fun _ => rfl) (by first | exact fun h => evG rfl (by rw [h]; rfl) | exact fun _ => rfl) rfl ?_
                  refine o_nil ?_
                  refine sSeq_normal ?_
                  refine s_cond rfl (fun hc5 => ?_) (fun hc5 => ?_)
                  · exact absurd hc5 (by decide)
                    done
                  · skip
                    refine s_skip ?_
                    exact sMid_normal (b, _) (subCons rfl (subCons rfl (subCons rfl subNil))) (.refl _) (hbase.mono (fun z hz => by first | exact hz | simp [hz]))
              · skip
                refine s_skip ?_
                exact sMid_normal (b, _) (subCons rfl (subCons rfl (subCons rfl subNil))) (.refl _) (hbase.mono (fun z hz => by first | exact hz | simp [hz]))
            · clear hbm hnx hny
              rintro ⟨b, M⟩ hbase
              dsimp only at hbase ⊢
              obtain ⟨vx, vy, hbm, hnx, hny⟩ := id hbase
              refine s_mid (α := Nat × Ms × Value) (fun z => [(0, I64 x), (1, I64 y), (5, .slice (some ⟨z.1, 0, some 0⟩) 2 2), (14, z.2.2), (7, I64 (sumR x y).2.2)]) (fun z => z.2.1) (fun z => Base x y z.1 z.2.1 ∧ NewL z.2.2 (sumR x y).1 z.2.1) ?_ ?_
              · skip
                refine s_ops ?_
                refine o_mov rfl rfl ?_
                refine o_call1 rfl (ha2 rfl rfl) rfl (fun H1 hH1 => (num_spec hE (i := 0) (nm := [43]) (by decide) (fun _ _ _ _ _ _ => rfl) (x) (y) (sumR x y) (fun sv hsv H => sum_spec hE sv hsv (x) (y) H) (some ⟨b, 0, some 0⟩) 2 [vx, vy] H1 (args2 hH1 (by first | exact hbm | simp [hbm]) (hnx.mono (fun z hz => by first | exact hz | simp [hz])) (hny.mono (fun z hz => by first | exact hz | simp [hz])) (ok_int x) (ok_int y))).mono ?_)
                rintro v Ms1 ⟨rv1, rfl, hrv1⟩
                refine o_mov rfl rfl ?_
                refine o_ext rfl rfl rfl ?_
                refine o_ext rfl rfl rfl ?_
                refine o_mov rfl rfl ?_
                refine o_mov rfl rfl ?_
                refine o_nil ?_
                exact sMid_normal (b, _, rv1) (subCons rfl (subCons rfl (subCons rfl (subCons rfl (subCons rfl subNil))))) (.refl _) ⟨hbase.mono (fun z hz => by first | exact hz | simp [hz]), hrv1.mono (fun z hz => by first | exact hz | simp [hz])⟩
              · clear hbm hnx hny hbase
                rintro ⟨b, M, sv⟩ ⟨hbase, hs⟩
                dsimp only at hbase hs ⊢
                obtain ⟨vx, vy, hbm, hnx, hny⟩ := id hbase
                obtain ⟨sf, hsf⟩ : ∃ sf : Bool, sf = decide (In64 (x + y)) := ⟨_, rfl⟩
                have hsR := sumR_eq hx hy
                rw [← hsf] at hsR
                rw [hsR, numberR_e]
                rw [hsR] at hs
                obtain ⟨wa, hwa1, hwa2⟩ := and64 x y
                have h62 : sf = (decide ((x + y) / 2 ≥ -4611686018427387904) && decide ((x + y) / 2 < 4611686018427387904)) := by
                  rw [hsf]; exact half_in x y
                refine s_seq ?_
                refine s_ops ?_
                refine o_mov rfl rfl ?_
                refine o_bin rfl rfl (shr1 x) rfl ?_
                refine o_mov rfl rfl ?_
                refine o_bin rfl rfl (shr1 y) rfl ?_
                refine o_bin (v := I64 (x / 2 + y / 2)) rfl rfl (by simp only [binV, binInt, if_true]; rw [wrap64 (by omega) (by omega)]) rfl ?_
                refine o_mov rfl rfl ?_
                refine o_mov rfl rfl ?_
                refine o_bin rfl rfl hwa1 rfl ?_
                refine o_bin rfl rfl hwa2 rfl ?_
                refine o_bin (v := I64 ((x + y) / 2)) rfl rfl (by simp only [binV, binInt, if_true]; rw [mod2, wrap64 (by omega) (by omega)]) rfl ?_
                refine o_mov rfl rfl ?_
                refine o_nil ?_
                refine sSeq_normal ?_
                refine s_seq ?_
                refine s_seq ?_
                refine s_ops ?_
                refine o_mov rfl rfl ?_
                refine o_bin rfl rfl rfl rfl ?_
                refine o_mov rfl rfl ?_
                refine o_bin rfl rfl rfl rfl ?_
                refine o_mov rfl rfl ?_
                refine g_mov (by first | exact wanted_b rfl | exact wanted_g rfl) (by first | exact evG rfl | exact evG2 rfl | exact evG3 rfl | exact fun _ => rfl) rfl ?_
                refine g_bin (by first | exact wanted_b rfl | exact wanted_g rfl) (by first | exact evG rfl | exact evG2 rfl | exact evG3 rfl | exact fun _ => rfl) (by first | exact evG rfl | exact evG2 rfl | exact evG3 rfl | exact fun _ => rfl) (fun _ => rfl) rfl ?_
                refine o_pickB rfl (by first | exact fun h => evG rfl (by rw [h]; rfl) | exact fun _ => rfl) (by first | exact fun h => evG rfl (by rw [h]; rfl) | exact fun _ => rfl) rfl ?_
                refine o_eqb rfl rfl rfl ?_
                refine o_mov rfl rfl ?_
                refine g_mov (by first | exact wanted_b rfl | exact wanted_g rfl) (by first | exact evG rfl | exact evG2 rfl | exact evG3 rfl | exact fun _ => rfl) rfl ?_
                refine g_bin (by first | exact wanted_b rfl | exact wanted_g rfl) (by first | exact evG rfl | exact evG2 rfl | exact evG3 rfl | exact fun _ => rfl) (by first | exact evG rfl | exact evG2 rfl | exact evG3 rfl | exact fun _ => rfl) (fun _ => rfl) rfl ?_
                refine g_mov (by first | exact wanted_b rfl | exact wanted_g rfl) (by first | exact evG rfl | exact evG2 rfl | exact evG3 rfl | exact fun _ => rfl) rfl ?_
                refine g_mov (by first | exact wanted_b rfl | exact wanted_g rfl) (by first | exact evG rfl | exact evG2 rfl | exact evG3 rfl | exact fun _ => rfl) rfl ?_
                refine g_bin (by first | exact wanted_b rfl | exact wanted_g rfl) (by first | exact evG rfl | exact evG2 rfl | exact evG3 rfl | exact fun _ => rfl) (by first | exact evG rfl | exact evG2 rfl | exact evG3 rfl | exact fun _ => rfl) (fun _ => rfl) rfl ?_
                refine g_pick (by first | exact wanted_b rfl | exact wanted_g rfl) (by first | exact evG rfl | exact evG2 rfl | exact evG3 rfl | exact fun _ => rfl) (by first | exact fun hw h => evG rfl (by rw [hw, h]; rfl) | exact fun _ _ => rfl | exact fun hw _ => evG rfl hw) (by first | exact fun hw h => evG rfl (by rw [hw, h]; rfl) | exact fun _ _ => rfl | exact fun hw _ => evG rfl hw) rfl ?_
                refine o_pickB rfl (by first | exact fun h => evG rfl (by rw [h]; rfl) | exact fun _ => rfl) (by first | exact fun h => evG rfl (by rw [h]; rfl) | exact fun _ => rfl) rfl ?_
                refine o_nil ?_
                refine sSeq_normal ?_
                refine s_cond rfl (fun hc6 => ?_) (fun hc6 => ?_)
                · exfalso
                  rw [h62] at hc6
                  revert hc6
                  generalize decide ((x + y) / 2 ≥ -4611686018427387904) = p1
                  generalize decide ((x + y) / 2 < 4611686018427387904) = p2
                  cases p1 <;> cases p2 <;> decide
                  done
                · skip
                  refine s_skip ?_
                  refine sSeq_normal ?_
                  refine s_mid (α := Nat × Ms) (fun z => [(0, I64 x), (1, I64 y), (5, .slice (some ⟨z.1, 0, some 0⟩) 2 2)]) (fun z => z.2) (fun z => Base x y z.1 z.2) ?_ ?_
                  · skip
                    refine s_seq ?_
                    refine s_ops ?_
                    refine o_mov rfl rfl ?_
                    refine o_bin rfl rfl rfl rfl ?_
                    refine o_nil ?_
                    refine sSeq_normal ?_
                    refine s_cond rfl (fun hc7 => ?_) (fun hc7 => ?_)
                    · have hs1 : sf = true := cond_of hc7
                      have hin : In64 (x + y) := by rw [hs1] at hsf; simpa using hsf.symm
                      rw [hs1, numberR_t] at hs
                      refine s_seq ?_
                      refine s_ops ?_
                      refine o_mov rfl rfl ?_
                      refine o_mov rfl rfl ?_
                      refine o_call1 rfl (ha1 rfl) rfl (fun H1 _ => (mkN_spec hE y H1).mono ?_)
                      rintro w1 N1 hw1
                      refine o_lits (c := [sv, w1]) (fun F hF => by simp only [List.map, hF.ev (x := .tmp 161) rfl, hF.ev (x := .tmp 163) rfl]; exact fill2 hs hw1) rfl (fun b159 => ?_)
                      refine o_call1 rfl (ha2 rfl rfl) rfl (fun H1 hH1 => (num_spec hE (i := 1) (nm := [45]) (by decide) (fun _ _ _ _ _ _ => rfl) (x + y) (y) (([mkInt x], 0, 0)) (fun sv hsv H => by have h := difference_spec hE sv hsv (x + y) (y) H; rw [back3 hx hy hin] at h; exact h) (some ⟨b159, 0, some 0⟩) 2 [sv, w1] H1 (args2 hH1 (.head _) (hs.mono (fun z hz => by simp [hz])) (hw1.mono (fun z hz => by simp [hz])) (ok_int _) (ok_int _))).mono ?_)
                      rintro v N160 ⟨r160, rfl, hr160⟩
                      rw [show (([mkInt x], 0, 0) : List Node × Int × Int).2.2 = 0 from rfl]
                      refine o_mov rfl rfl ?_
                      refine o_ext rfl rfl rfl ?_
                      refine o_ext rfl rfl rfl ?_
                      refine o_mov rfl rfl ?_
                      refine o_mov rfl rfl ?_
                      refine o_nil ?_
                      refine sSeq_normal ?_
                      refine s_seq ?_
                      refine s_ops ?_
                      refine o_mov rfl rfl ?_
                      refine o_bin rfl rfl rfl rfl ?_
                      refine o_mov rfl rfl ?_
                      refine g_on (wantedT rfl rfl) ?_
                      refine o_mov rfl rfl ?_
                      refine g_on (wantedT rfl rfl) ?_
                      refine o_mov rfl rfl ?_
                      refine g_on (wantedT rfl rfl) ?_
                      refine o_call1 rfl (ha1 rfl) rfl (fun H1 _ => (mkN_spec hE x H1).mono ?_)
                      rintro wx Nx hwx
                      refine g_on (wantedT rfl rfl) ?_
                      refine o_call0 (v := .bool true) rfl (ha2 rfl rfl) rfl (fun H1 hH1 => by have h := Equal_new hE (a := [mkInt x]) (b := [mkInt x]) hH1 (hr160.mono (fun z hz => by simp [hz])) (hwx.mono (fun z hz => by simp [hz])) (ok_int x) (ok_int x) (by show 1 ≤ _; decide); rw [eq_int] at h; exact h) ?_
                      refine g_on (wantedT rfl rfl) ?_
                      refine o_un rfl rfl rfl ?_
                      refine o_pickB rfl (by first | exact fun h => evG rfl (by rw [h]; rfl) | exact fun _ => rfl) (by first | exact fun h => evG rfl (by rw [h]; rfl) | exact fun _ => rfl) rfl ?_
                      refine o_nil ?_
                      refine sSeq_normal ?_
                      refine s_cond rfl (fun hc8 => ?_) (fun hc8 => ?_)
                      · exact absurd hc8 (by decide)
                        done
                      · skip
                        refine s_skip ?_
                        exact sMid_normal (b, _) (subCons rfl (subCons rfl (subCons rfl subNil))) (.refl _) (hbase.mono (fun z hz => by first | exact hz | simp [hz]))
                    · skip
                      refine s_skip ?_
                      exact sMid_normal (b, _) (subCons rfl (subCons rfl (subCons rfl subNil))) (.refl _) (hbase.mono (fun z hz => by first | exact hz | simp [hz]))
                  · clear hbm hnx hny
                    rintro ⟨b, M⟩ hbase
                    dsimp only at hbase ⊢
                    obtain ⟨vx, vy, hbm, hnx, hny⟩ := id hbase
                    refine s_mid (α := Nat × Ms × Value) (fun z => [(0, I64 x), (1, I64 y), (5, .slice (some ⟨z.1, 0, some 0⟩) 2 2), (18, z.2.2), (7, I64 (diffR x y).2.2)]) (fun z => z.2.1) (fun z => Base x y z.1 z.2.1 ∧ NewL z.2.2 (diffR x y).1 z.2.1) ?_ ?_
                    · skip
                      refine s_ops ?_
                      refine o_mov rfl rfl ?_
                      refine o_call1 rfl (ha2 rfl rfl) rfl (fun H1 hH1 => (num_spec hE (i := 1) (nm := [45]) (by decide) (fun _ _ _ _ _ _ => rfl) (x) (y) (diffR x y) (fun sv hsv H => difference_spec hE sv hsv (x) (y) H) (some ⟨b, 0, some 0⟩) 2 [vx, vy] H1 (args2 hH1 (by first | exact hbm | simp [hbm]) (hnx.mono (fun z hz => by first | exact hz | simp [hz])) (hny.mono (fun z hz => by first | exact hz | simp [hz])) (ok_int x) (ok_int y))).mono ?_)
                      rintro v Ms1 ⟨rv1, rfl, hrv1⟩
                      refine o_mov rfl rfl ?_
                      refine o_ext rfl rfl rfl ?_
                      refine o_ext rfl rfl rfl ?_
                      refine o_mov rfl rfl ?_
                      refine o_mov rfl rfl ?_
                      refine o_nil ?_
                      exact sMid_normal (b, _, rv1) (subCons rfl (subCons rfl (subCons rfl (subCons rfl (subCons rfl subNil))))) (.refl _) ⟨hbase.mono (fun z hz => by first | exact hz | simp [hz]), hrv1.mono (fun z hz => by first | exact hz | simp [hz])⟩
                    · clear hbm hnx hny hbase
                      rintro ⟨b, M, sv⟩ ⟨hbase, hs⟩
                      dsimp only at hbase hs ⊢
                      obtain ⟨vx, vy, hbm, hnx, hny⟩ := id hbase
                      obtain ⟨sf, hsf⟩ : ∃ sf : Bool, sf = decide (In64 (x - y)) := ⟨_, rfl⟩
                      have hsR := diffR_eq hx hy
                      rw [← hsf] at hsR
                      rw [hsR, numberR_e]
                      rw [hsR] at hs
                      refine s_mid (α := Nat × Ms) (fun z => [(0, I64 x), (1, I64 y), (5, .slice (some ⟨z.1, 0, some 0⟩) 2 2)]) (fun z => z.2) (fun z => Base x y z.1 z.2) ?_ ?_
                      · skip
                        refine s_seq ?_
                        refine s_ops ?_
                        refine o_mov rfl rfl ?_
                        refine o_bin rfl rfl rfl rfl ?_
                        refine o_nil ?_
                        refine sSeq_normal ?_
                        refine s_cond rfl (fun hc9 => ?_) (fun hc9 => ?_)
                        · have hs1 : sf = true := cond_of hc9
                          have hin : In64 (x - y) := by rw [hs1] at hsf; simpa using hsf.symm
                          rw [hs1, numberR_t] at hs
                          refine s_seq ?_
                          refine s_ops ?_
                          refine o_mov rfl rfl ?_
                          refine o_mov rfl rfl ?_
                          refine o_call1 rfl (ha1 rfl) rfl (fun H1 _ => (mkN_spec hE y H1).mono ?_)
                          rintro w1 N1 hw1
                          refine o_lits (c := [sv, w1]) (fun F hF => by simp only [List.map, hF.ev (x := .tmp 185) rfl, hF.ev (x := .tmp 187) rfl]; exact fill2 hs hw1) rfl (fun b188 => ?_)
                          refine o_call1 rfl (ha2 rfl rfl) rfl (fun H1 hH1 => (num_spec hE (i := 0) (nm := [43]) (by decide) (fun _ _ _ _ _ _ => rfl) (x - y) (y) (([mkInt x], 0, 0)) (fun sv hsv H => by have h := sum_spec hE sv hsv (x - y) (y) H; rw [back4 hx hy hin] at h; exact h) (some ⟨b188, 0, some 0⟩) 2 [sv, w1] H1 (args2 hH1 (.head _) (hs.mono (fun z hz => by simp [hz])) (hw1.mono (fun z hz => by simp [hz])) (ok_int _) (ok_int _))).mono ?_)
                          rintro v N189 ⟨r189, rfl, hr189⟩
                          rw [show (([mkInt x], 0, 0) : List Node × Int × Int).2.2 = 0 from rfl]
                          refine o_mov rfl rfl ?_
                          refine o_ext rfl rfl rfl ?_
                          refine o_ext rfl rfl rfl ?_
                          refine o_mov rfl rfl ?_
                          refine o_mov rfl rfl ?_
                          refine o_nil ?_
                          refine sSeq_normal ?_
                          refine s_seq ?_
                          refine s_ops ?_
                          refine o_mov rfl rfl ?_
                          refine o_bin rfl rfl rfl rfl ?_
                          refine o_mov rfl rfl ?_
                          refine g_on (wantedT rfl rfl) ?_
                          refine o_mov rfl rfl ?_
                          refine g_on (wantedT rfl rfl) ?_
                          refine o_mov rfl rfl ?_
                          refine g_on (wantedT rfl rfl) ?_
                          refine o_call1 rfl (ha1 rfl) rfl (fun H1 _ => (mkN_spec hE x H1).mono ?_)
                          rintro wx Nx hwx
                          refine g_on (wantedT rfl rfl) ?_
                          refine o_call0 (v := .bool true) rfl (ha2 rfl rfl) rfl (fun H1 hH1 => by have h := Equal_new hE (a := [mkInt x]) (b := [mkInt x]) hH1 (hr189.mono (fun z hz => by simp [hz])) (hwx.mono (fun z hz => by simp [hz])) (ok_int x) (ok_int x) (by show 1 ≤ _; decide); rw [eq_int] at h; exact h) ?_
                          refine g_on (wantedT rfl rfl) ?_
                          refine o_un rfl rfl rfl ?_
                          refine o_pickB rfl (by first | exact fun h => evG rfl (by rw [h]; rfl) | exact fun _ => rfl) (by first | exact fun h => evG rfl (by rw [h]; rfl) | exact fun _ => rfl) rfl ?_
                          refine o_nil ?_
                          refine sSeq_normal ?_
                          refine s_cond rfl (fun hc10 => ?_) (fun hc10 => ?_)
                          · exact absurd hc10 (by decide)
                            done
                          · skip
                            refine s_skip ?_
                            exact sMid_normal (b, _) (subCons rfl (subCons rfl (subCons rfl subNil))) (.refl _) (hbase.mono (fun z hz => by first | exact hz | simp [hz]))
                        · skip
                          refine s_skip ?_
                          exact sMid_normal (b, _) (subCons rfl (subCons rfl (subCons rfl subNil))) (.refl _) (hbase.mono (fun z hz => by first | exact hz | simp [hz]))
                      · clear hbm hnx hny
                        rintro ⟨b, M⟩ hbase
                        dsimp only at hbase ⊢
                        obtain ⟨vx, vy, hbm, hnx, hny⟩ := id hbase
                        refine s_mid (α := Nat × Ms × Value) (fun z => [(0, I64 x), (1, I64 y), (5, .slice (some ⟨z.1, 0, some 0⟩) 2 2), (21, z.2.2), (7, I64 (prodR x y).2.2)]) (fun z => z.2.1) (fun z => Base x y z.1 z.2.1 ∧ NewL z.2.2 (prodR x y).1 z.2.1) ?_ ?_
                        · skip
                          refine s_ops ?_
                          refine o_mov rfl rfl ?_
                          refine o_call1 rfl (ha2 rfl rfl) rfl (fun H1 hH1 => (num_spec hE (i := 2) (nm := [42]) (by decide) (fun _ _ _ _ _ _ => rfl) (x) (y) (prodR x y) (fun sv hsv H => product_spec hE sv hsv (x) (y) hx.1 hx.2 hy.1 hy.2 H) (some ⟨b, 0, some 0⟩) 2 [vx, vy] H1 (args2 hH1 (by first | exact hbm | simp [hbm]) (hnx.mono (fun z hz => by first | exact hz | simp [hz])) (hny.mono (fun z hz => by first | exact hz | simp [hz])) (ok_int x) (ok_int y))).mono ?_)
                          rintro v Ms1 ⟨rv1, rfl, hrv1⟩
                          refine o_mov rfl rfl ?_
                          refine o_ext rfl rfl rfl ?_
                          refine o_ext rfl rfl rfl ?_
                          refine o_mov rfl rfl ?_
                          refine o_mov rfl rfl ?_
                          refine o_nil ?_
                          exact sMid_normal (b, _, rv1) (subCons rfl (subCons rfl (subCons rfl (subCons rfl (subCons rfl subNil))))) (.refl _) ⟨hbase.mono (fun z hz => by first | exact hz | simp [hz]), hrv1.mono (fun z hz => by first | exact hz | simp [hz])⟩
                        · clear hbm hnx hny hbase
                          rintro ⟨b, M, sv⟩ ⟨hbase, hs⟩
                          dsimp only at hbase hs ⊢
                          obtain ⟨vx, vy, hbm, hnx, hny⟩ := id hbase
                          obtain ⟨sf, hsf⟩ : ∃ sf : Bool, sf = decide (x.natAbs * y.natAbs ≤ mostN x y) := ⟨_, rfl⟩
                          have hsR := prodR_eq x y
                          rw [← hsf] at hsR
                          rw [hsR, numberR_e]
                          rw [hsR] at hs
                          have hml : mostN x y ≤ 9223372036854775808 := by unfold mostN; split <;> omega
                          have hya : 0 < y.natAbs := by omega
                          have hle : sf = decide (((x.natAbs : Nat) : Int) ≤ ((mostN x y / y.natAbs : Nat) : Int)) := by
                            rw [hsf, Bool.eq_iff_iff]
                            simp only [decide_eq_true_eq, Int.ofNat_le]
                            exact (Nat.le_div_iff_mul_le hya).symm
                          refine s_seq ?_
                          refine s_ops ?_
                          refine o_mov rfl rfl ?_
                          refine o_nil ?_
                          refine sSeq_normal ?_
                          refine s_mid (α := Unit) (fun _ => [(0, I64 x), (1, I64 y), (5, .slice (some ⟨b, 0, some 0⟩) 2 2), (21, sv), (7, I64 (cond sf 0 20)), (22, .int .u64 (mostN x y : Nat))]) (fun _ => M) (fun _ => True) ?_ ?_
                          · skip
                            refine s_seq ?_
                            refine s_ops ?_
                            refine o_mov rfl rfl ?_
                            refine o_bin rfl rfl rfl rfl ?_
                            refine o_mov rfl rfl ?_
                            refine o_bin rfl rfl rfl rfl ?_
                            refine o_eqb rfl rfl rfl ?_
                            refine o_nil ?_
                            refine sSeq_normal ?_
                            refine s_cond rfl (fun hc11 => ?_) (fun hc11 => ?_)
                            · skip
                              refine s_ops ?_
                              refine o_mov rfl rfl ?_
                              refine o_nil ?_
                              exact sMid_normal () (subCons rfl (subCons rfl (subCons rfl (subCons rfl (subCons rfl (subEq rfl (by first | (rw [show mostN x y = 9223372036854775808 from by unfold mostN; rw [if_pos (by simpa using hc11)]]; rfl) | (rw [show mostN x y = 9223372036854775807 from by unfold mostN; rw [if_neg (by simpa using hc11)]]; rfl)) subNil)))))) (.refl _) trivial
                            · skip
                              refine s_skip ?_
                              exact sMid_normal () (subCons rfl (subCons rfl (subCons rfl (subCons rfl (subCons rfl (subEq rfl (by first | (rw [show mostN x y = 9223372036854775808 from by unfold mostN; rw [if_pos (by simpa using hc11)]]; rfl) | (rw [show mostN x y = 9223372036854775807 from by unfold mostN; rw [if_neg (by simpa using hc11)]]; rfl)) subNil)))))) (.refl _) trivial
                          · rintro _ _
                            refine s_seq ?_
                            refine s_seq ?_
                            refine s_ops ?_
                            refine o_mov rfl rfl ?_
                            refine o_bin rfl rfl rfl rfl ?_
                            refine o_mov rfl rfl ?_
                            refine o_call0 (v := .int .u64 (x.natAbs : Nat)) rfl (ha1 rfl) rfl (fun H1 _ => by have h := size_spec hE x hx.1 hx.2 H1; rw [sizeR_abs] at h; exact h) ?_
                            refine o_mov rfl rfl ?_
                            refine o_mov rfl rfl ?_
                            refine o_call0 (v := .int .u64 (y.natAbs : Nat)) rfl (ha1 rfl) rfl (fun H1 _ => by have h := size_spec hE y hy.1 hy.2 H1; rw [sizeR_abs] at h; exact h) ?_
                            refine o_bin rfl rfl (binQuo (by omega) hya) rfl ?_
                            refine o_bin rfl rfl rfl rfl ?_
                            refine o_eqb rfl rfl rfl ?_
                            refine o_mov rfl rfl ?_
                            refine g_mov (by first | exact wanted_b rfl | exact wanted_g rfl) (by first | exact evG rfl | exact evG2 rfl | exact evG3 rfl | exact fun _ => rfl) rfl ?_
                            refine g_bin (by first | exact wanted_b rfl | exact wanted_g rfl) (by first | exact evG rfl | exact evG2 rfl | exact evG3 rfl | exact fun _ => rfl) (by first | exact evG rfl | exact evG2 rfl | exact evG3 rfl | exact fun _ => rfl) (fun _ => rfl) rfl ?_
                            refine g_mov (by first | exact wanted_b rfl | exact wanted_g rfl) (by first | exact evG rfl | exact evG2 rfl | exact evG3 rfl | exact fun _ => rfl) rfl ?_
                            refine g_mov (by first | exact wanted_b rfl | exact wanted_g rfl) (by first | exact evG rfl | exact evG2 rfl | exact evG3 rfl | exact fun _ => rfl) rfl ?_
                            refine g_bin (by first | exact wanted_b rfl | exact wanted_g rfl) (by first | exact evG rfl | exact evG2 rfl | exact evG3 rfl | exact fun _ => rfl) (by first | exact evG rfl | exact evG2 rfl | exact evG3 rfl | exact fun _ => rfl) (fun _ => rfl) rfl ?_
                            refine g_pick (by first | exact wanted_b rfl | exact wanted_g rfl) (by first | exact evG rfl | exact evG2 rfl | exact evG3 rfl | exact fun _ => rfl) (by first | exact fun hw h => evG rfl (by rw [hw, h]; rfl) | exact fun _ _ => rfl | exact fun hw _ => evG rfl hw) (by first | exact fun hw h => evG rfl (by rw [hw, h]; rfl) | exact fun _ _ => rfl | exact fun hw _ => evG rfl hw) rfl ?_
                            refine o_pickB rfl (by first | exact fun h => evG rfl (by rw [h]; rfl) | exact fun _ => rfl) (by first | exact fun h => evG rfl (by rw [h]; rfl) | exact fun _ => rfl) rfl ?_
                            refine o_nil ?_
                            refine sSeq_normal ?_
                            refine s_cond rfl (fun hc12 => ?_) (fun hc12 => ?_)
                            · exfalso
                              rw [← hle] at hc12
                              revert hc12
                              cases sf <;> decide
                              done
                            · skip
                              refine s_skip ?_
                              refine sSeq_normal ?_
                              refine s_mid (α := Nat × Ms) (fun z => [(0, I64 x), (1, I64 y), (5, .slice (some ⟨z.1, 0, some 0⟩) 2 2)]) (fun z => z.2) (fun z => Base x y z.1 z.2) ?_ ?_
                              · skip
                                refine s_seq ?_
                                refine s_ops ?_
                                refine o_mov rfl rfl ?_
                                refine o_bin rfl rfl rfl rfl ?_
                                refine o_mov rfl rfl ?_
                                refine g_mov (by first | exact wanted_b rfl | exact wanted_g rfl) (by first | exact evG rfl | exact evG2 rfl | exact evG3 rfl | exact fun _ => rfl) rfl ?_
                                refine g_bin (by first | exact wanted_b rfl | exact wanted_g rfl) (by first | exact evG rfl | exact evG2 rfl | exact evG3 rfl | exact fun _ => rfl) (by first | exact evG rfl | exact evG2 rfl | exact evG3 rfl | exact fun _ => rfl) (fun _ => rfl) rfl ?_
                                refine o_pickB rfl (by first | exact fun h => evG rfl (by rw [h]; rfl) | exact fun _ => rfl) (by first | exact fun h => evG rfl (by rw [h]; rfl) | exact fun _ => rfl) rfl ?_
                                refine o_nil ?_
                                refine sSeq_normal ?_
                                refine s_cond rfl (fun hc13 => ?_) (fun hc13 => ?_)
                                · have hs1 : sf = true := by
                                    revert hc13
                                    cases sf
                                    · intro h; exact absurd h (by simp)
                                    · intro _; rfl
                                  have hy1 : y ≠ -1 := by rw [hs1] at hc13; simpa using hc13
                                  have hfit : x.natAbs * y.natAbs ≤ mostN x y := by rw [hs1] at hsf; simpa using hsf.symm
                                  have hin : In64 (x * y) := prod_exact hfit
                                  rw [hs1, numberR_t] at hs
                                  refine s_seq ?_
                                  refine s_ops ?_
                                  refine o_mov rfl rfl ?_
                                  refine o_mov rfl rfl ?_
                                  refine o_call1 rfl (ha1 rfl) rfl (fun H1 _ => (mkN_spec hE y H1).mono ?_)
                                  rintro w1 N1 hw1
                                  refine o_lits (c := [sv, w1]) (fun F hF => by simp only [List.map, hF.ev (x := .tmp 236) rfl, hF.ev (x := .tmp 238) rfl]; exact fill2 hs hw1) rfl (fun b247 => ?_)
                                  refine o_call1 rfl (ha2 rfl rfl) rfl (fun H1 hH1 => (num_spec hE (i := 3) (nm := [113, 117, 111, 116, 105, 101, 110, 116]) (by decide) (fun _ _ _ _ _ _ => rfl) (x * y) (y) (([mkInt x], 0, 0)) (fun sv hsv H => by have h := quotient_spec hE sv hsv (x * y) (y) H; rw [back5 hx hy0 hy1 hin] at h; exact h) (some ⟨b247, 0, some 0⟩) 2 [sv, w1] H1 (args2 hH1 (.head _) (hs.mono (fun z hz => by simp [hz])) (hw1.mono (fun z hz => by simp [hz])) (ok_int _) (ok_int _))).mono ?_)
                                  rintro v N248 ⟨r248, rfl, hr248⟩
                                  rw [show (([mkInt x], 0, 0) : List Node × Int × Int).2.2 = 0 from rfl]
                                  refine o_mov rfl rfl ?_
                                  refine o_ext rfl rfl rfl ?_
                                  refine o_ext rfl rfl rfl ?_
                                  refine o_mov rfl rfl ?_
                                  refine o_mov rfl rfl ?_
                                  refine o_nil ?_
                                  refine sSeq_normal ?_
                                  refine s_seq ?_
                                  refine s_ops ?_
                                  refine o_mov rfl rfl ?_
                                  refine o_bin rfl rfl rfl rfl ?_
                                  refine o_mov rfl rfl ?_
                                  refine g_on (wantedT rfl rfl) ?_
                                  refine o_mov rfl rfl ?_
                                  refine g_on (wantedT rfl rfl) ?_
                                  refine o_mov rfl rfl ?_
                                  refine g_on (wantedT rfl rfl) ?_
                                  refine o_call1 rfl (ha1 rfl) rfl (fun H1 _ => (mkN_spec hE x H1).mono ?_)
                                  rintro wx Nx hwx
                                  refine g_on (wantedT rfl rfl) ?_
                                  refine o_call0 (v := .bool true) rfl (ha2 rfl rfl) rfl (fun H1 hH1 => by have h := Equal_new hE (a := [mkInt x]) (b := [mkInt x]) hH1 (hr248.mono (fun z hz => by simp [hz])) (hwx.mono (fun z hz => by simp [hz])) (ok_int x) (ok_int x) (by show 1 ≤ _; decide); rw [eq_int] at h; exact h) ?_
                                  refine g_on (wantedT rfl rfl) ?_
                                  refine o_un rfl rfl rfl ?_
                                  refine o_pickB rfl (by first | exact fun h => evG rfl (by rw [h]; rfl) | exact fun _ => rfl) (by first | exact fun h => evG rfl (by rw [h]; rfl) | exact fun _ => rfl) rfl ?_
                                  refine o_nil ?_
                                  refine sSeq_normal ?_
                                  refine s_cond rfl (fun hc14 => ?_) (fun hc14 => ?_)
                                  · exact absurd hc14 (by decide)
                                    done
                                  · skip
                                    refine s_skip ?_
                                    exact sMid_normal (b, _) (subCons rfl (subCons rfl (subCons rfl subNil))) (.refl _) (hbase.mono (fun z hz => by first | exact hz | simp [hz]))
                                · skip
                                  refine s_skip ?_
                                  exact sMid_normal (b, _) (subCons rfl (subCons rfl (subCons rfl subNil))) (.refl _) (hbase.mono (fun z hz => by first | exact hz | simp [hz]))
                              · clear hbm hnx hny
                                rintro ⟨b, M⟩ hbase
                                dsimp only at hbase ⊢
                                obtain ⟨vx, vy, hbm, hnx, hny⟩ := id hbase
                                refine s_seq ?_
                                refine s_ops ?_
                                refine o_call0 (v := .bool true) rfl ha0 rfl (fun H1 _ => hawake H1) ?_
                                refine o_mov rfl rfl ?_
                                refine o_nil ?_
                                refine sSeq_normal ?_
                                refine s_ret ?_
                                refine sRet_ret [_] ⟨rfl, trivial⟩ ?_
                                rfl

end Go.Proofs.YtfonnebpnobomaaDoor.W
