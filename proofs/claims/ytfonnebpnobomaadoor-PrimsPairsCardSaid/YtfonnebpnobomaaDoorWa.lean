/- What the functions of the program come to, one for one, from any memory. By an AI agent. No person has read it. -/
import Derived.Test.YtfonnebpnobomaaDoorSy
import Derived.Test.YtfonnebpnobomaaDoorCode
import Derived.Test.YtfonnebpnobomaaDoorAm5
namespace Go.Proofs.YtfonnebpnobomaaDoor.W
open Go Am code
set_option maxRecDepth 100000
set_option maxHeartbeats 4000000
set_option linter.unusedSimpArgs false
set_option linter.unusedVariables false
/-- a node of a term -/
structure Node where
  kind : Int
  kids : Int
  n : Int
  s : ByteArray
  tag : Int
  ref : Int
def Node.cells (x : Node) : List Value := [.int .i64 x.kind, .int .i64 x.kids, .int .i64 x.n, .string x.s, .int .i32 x.tag, .int .i32 x.ref]


structure Has (E : Env) : Prop where
  h34 : E.code 34 = some c34
  h35 : E.code 35 = some c35
  h26 : E.code 26 = some c26
  h27 : E.code 27 = some c27
  h7 : E.code 7 = some c7
  h15 : E.code 15 = some c15
  h17 : E.code 17 = some c17
  h36 : E.code 36 = some c36
  h38 : E.code 38 = some c38
  h40 : E.code 40 = some c40
  h37 : E.code 37 = some c37
  h39 : E.code 39 = some c39
  h41 : E.code 41 = some c41
  h53 : E.code 53 = some c53
  h54 : E.code 54 = some c54
  h52 : E.code 52 = some c52
  h60 : E.code 60 = some c60
  h18 : E.code 18 = some c18
  h23 : E.code 23 = some c23
  h13 : E.code 13 = some c13
  h21 : E.code 21 = some c21
  h20 : E.code 20 = some c20
  h8 : E.code 8 = some c8
  h49 : E.code 49 = some c49
  h29 : E.code 29 = some c29
  h30 : E.code 30 = some c30
  h32 : E.code 32 = some c32
  h33 : E.code 33 = some c33
  h28 : E.code 28 = some c28
  h55 : E.code 55 = some c55
  h42 : E.code 42 = some c42
  h48 : E.code 48 = some c48
  h43 : E.code 43 = some c43
  h58 : E.code 58 = some c58
  h57 : E.code 57 = some c57
  h45 : E.code 45 = some c45
  h44 : E.code 44 = some c44
  h46 : E.code 46 = some c46
  h24 : E.code 24 = some c24
  h59 : E.code 59 = some c59
  h47 : E.code 47 = some c47
  h25 : E.code 25 = some c25
  h19 : E.code 19 = some c19
  h22 : E.code 22 = some c22
  h11 : E.code 11 = some c11
  h12 : E.code 12 = some c12
  h31 : E.code 31 = some c31
  h50 : E.code 50 = some c50
  h51 : E.code 51 = some c51
  h4 : E.code 4 = some c4

end Go.Proofs.YtfonnebpnobomaaDoor.W
namespace Go.Proofs.YtfonnebpnobomaaDoor.W
open Go Am code
set_option maxRecDepth 100000
set_option maxHeartbeats 4000000
set_option linter.unusedSimpArgs false
set_option linter.unusedVariables false
variable {E : Env} (hE : Has E)

def lead (x : Node) (named : Bool) : Int × Int := (if (x.kind = 8 ∨ x.kind = 11) ∧ named = true then x.n else 0, if x.kind = 11 then x.n else 0)
include hE in
theorem lead_spec (x : Node) (named : Bool) (H : Hp) : Sc E 55 [.agg ⟨x.cells⟩, .bool named] H [] fun v _ => v = .tuple ⟨[.int .i64 (lead x named).1, .int .i64 (lead x named).2]⟩ := by
  refine sc_body hE.h55 rfl ?_
  show Ss E _ _ _ c55.body _ _ _
  unfold c55
  refine s_seq ?_
  refine s_ops ?_
  refine o_box rfl rfl rfl (fun b0 => ?_)
  refine o_mov rfl rfl ?_
  refine o_mov rfl rfl ?_
  refine o_nil ?_
  refine sSeq_normal ?_
  refine s_seq ?_
  refine s_seq ?_
  refine s_ops ?_
  refine o_fad rfl rfl ?_
  refine o_ld1 rfl (by first | exact .head _ | exact .tail _ (.head _) | exact .tail _ (.tail _ (.head _)) | exact .tail _ (.tail _ (.tail _ (.head _))) | exact .tail _ (.tail _ (.tail _ (.tail _ (.head _))))) rfl rfl ?_
  refine o_nil ?_
  refine sSeq_normal ?_
  refine s_block ?_
  refine s_seq ?_
  refine s_block ?_
  refine s_seq ?_
  refine s_block ?_
  refine s_seq ?_
  refine s_seq ?_
  refine s_seq ?_
  refine s_ops ?_
  refine o_bin rfl rfl rfl rfl ?_
  refine o_mov rfl rfl ?_
  refine o_nil ?_
  refine sSeq_normal ?_
  refine s_cond rfl (fun hc0 => ?_) (fun hc0 => ?_)
  · skip
    refine s_exit ?_
    refine sSeq_exit ?_
    refine sSeq_exit ?_
    refine sBlock_exit ?_
    refine sSeq_normal ?_
    refine s_ops ?_
    refine o_fad rfl rfl ?_
    refine o_ld1 rfl (by first | exact .head _ | exact .tail _ (.head _) | exact .tail _ (.tail _ (.head _)) | exact .tail _ (.tail _ (.tail _ (.head _))) | exact .tail _ (.tail _ (.tail _ (.tail _ (.head _))))) rfl rfl ?_
    refine o_mov rfl rfl ?_
    refine o_nil ?_
    refine sBlock_normal ?_
    refine sSeq_normal ?_
    refine s_seq ?_
    refine s_seq ?_
    refine s_ops ?_
    refine o_mov rfl rfl ?_
    refine o_nil ?_
    refine sSeq_normal ?_
    refine s_cond rfl (fun hc2 => ?_) (fun hc2 => ?_)
    · skip
      refine s_ops ?_
      refine o_fad rfl rfl ?_
      refine o_ld1 rfl (by first | exact .head _ | exact .tail _ (.head _) | exact .tail _ (.tail _ (.head _)) | exact .tail _ (.tail _ (.tail _ (.head _))) | exact .tail _ (.tail _ (.tail _ (.tail _ (.head _))))) rfl rfl ?_
      refine o_mov rfl rfl ?_
      refine o_nil ?_
      refine sSeq_normal ?_
      refine s_exit ?_
      refine sBlock_exit ?_
      refine sSeq_normal ?_
      refine s_seq ?_
      refine s_ops ?_
      refine o_mov rfl rfl ?_
      refine o_mov rfl rfl ?_
      refine o_mov rfl rfl ?_
      refine o_mov rfl rfl ?_
      refine o_nil ?_
      refine sSeq_normal ?_
      refine s_ret ?_
      refine sRet_ret [_, _] ⟨rfl, rfl, trivial⟩ ?_
      show _ = _
      simp_all [tupled, lead]
    · skip
      refine s_skip ?_
      refine sSeq_normal ?_
      refine s_exit ?_
      refine sBlock_exit ?_
      refine sSeq_normal ?_
      refine s_seq ?_
      refine s_ops ?_
      refine o_mov rfl rfl ?_
      refine o_mov rfl rfl ?_
      refine o_mov rfl rfl ?_
      refine o_mov rfl rfl ?_
      refine o_nil ?_
      refine sSeq_normal ?_
      refine s_ret ?_
      refine sRet_ret [_, _] ⟨rfl, rfl, trivial⟩ ?_
      show _ = _
      simp_all [tupled, lead]
  · skip
    refine s_skip ?_
    refine sSeq_normal ?_
    refine s_seq ?_
    refine s_ops ?_
    refine o_bin rfl rfl rfl rfl ?_
    refine o_mov rfl rfl ?_
    refine o_nil ?_
    refine sSeq_normal ?_
    refine s_cond rfl (fun hc1 => ?_) (fun hc1 => ?_)
    · skip
      refine s_exit ?_
      refine sSeq_exit ?_
      refine sBlock_out rfl ?_
      refine sSeq_exit ?_
      refine sBlock_exit ?_
      refine sSeq_normal ?_
      refine s_seq ?_
      refine s_seq ?_
      refine s_ops ?_
      refine o_mov rfl rfl ?_
      refine o_nil ?_
      refine sSeq_normal ?_
      refine s_cond rfl (fun hc2 => ?_) (fun hc2 => ?_)
      · skip
        refine s_ops ?_
        refine o_fad rfl rfl ?_
        refine o_ld1 rfl (by first | exact .head _ | exact .tail _ (.head _) | exact .tail _ (.tail _ (.head _)) | exact .tail _ (.tail _ (.tail _ (.head _))) | exact .tail _ (.tail _ (.tail _ (.tail _ (.head _))))) rfl rfl ?_
        refine o_mov rfl rfl ?_
        refine o_nil ?_
        refine sSeq_normal ?_
        refine s_exit ?_
        refine sBlock_exit ?_
        refine sSeq_normal ?_
        refine s_seq ?_
        refine s_ops ?_
        refine o_mov rfl rfl ?_
        refine o_mov rfl rfl ?_
        refine o_mov rfl rfl ?_
        refine o_mov rfl rfl ?_
        refine o_nil ?_
        refine sSeq_normal ?_
        refine s_ret ?_
        refine sRet_ret [_, _] ⟨rfl, rfl, trivial⟩ ?_
        show _ = _
        simp_all [tupled, lead]
      · skip
        refine s_skip ?_
        refine sSeq_normal ?_
        refine s_exit ?_
        refine sBlock_exit ?_
        refine sSeq_normal ?_
        refine s_seq ?_
        refine s_ops ?_
        refine o_mov rfl rfl ?_
        refine o_mov rfl rfl ?_
        refine o_mov rfl rfl ?_
        refine o_mov rfl rfl ?_
        refine o_nil ?_
        refine sSeq_normal ?_
        refine s_ret ?_
        refine sRet_ret [_, _] ⟨rfl, rfl, trivial⟩ ?_
        show _ = _
        simp_all [tupled, lead]
    · skip
      refine s_skip ?_
      refine sSeq_normal ?_
      refine s_exit ?_
      refine sBlock_out rfl ?_
      refine sSeq_exit ?_
      refine sBlock_out rfl ?_
      refine sSeq_exit ?_
      refine sBlock_exit ?_
      refine sSeq_normal ?_
      refine s_seq ?_
      refine s_ops ?_
      refine o_mov rfl rfl ?_
      refine o_mov rfl rfl ?_
      refine o_mov rfl rfl ?_
      refine o_mov rfl rfl ?_
      refine o_nil ?_
      refine sSeq_normal ?_
      refine s_ret ?_
      refine sRet_ret [_, _] ⟨rfl, rfl, trivial⟩ ?_
      show _ = _
      simp_all [tupled, lead]


def fN (x : Node) : Bool := x.kind == 1 || x.kind == 2 || x.kind == 7 || x.kind == 12 || x.kind == 8 || x.kind == 11
def fS (x : Node) : Bool := x.kind == 3 || x.kind == 6
def fT (x : Node) : Bool := x.kind == 8 || x.kind == 11 || x.kind == 9 || x.kind == 10
def fLeast (x : Node) : Int := if x.kind = 5 then 2 else if x.kind = 9 then 1 else if x.kind = 10 then 3 else 0
def fMost (x : Node) : Int := if x.kind = 5 then 2 else if x.kind = 8 ∨ x.kind = 11 then x.kids else if x.kind = 9 then 9 else if x.kind = 10 then 3 else 0
def fieldsBad (x : Node) : Bool := (!fN x && x.n != 0) || (!fS x && !(x.s.toList == (⟨#[]⟩ : ByteArray).toList)) || (!fT x && x.tag != 0) || decide (x.kids < fLeast x) || decide (x.kids > fMost x)
include hE in
theorem fields_spec (x : Node) (H : Hp) : Sc E 42 [.agg ⟨x.cells⟩] H [] fun v _ => v = .int .i64 (if fieldsBad x then 6 else 0) := by
  refine sc_body hE.h42 rfl ?_
  show Ss E _ _ _ c42.body _ _ _
  unfold c42
  refine s_seq ?_
  refine s_ops ?_
  refine o_box rfl rfl rfl (fun b0 => ?_)
  refine o_mov rfl rfl ?_
  refine o_nil ?_
  refine sSeq_normal ?_
  refine s_seq ?_
  refine s_ops ?_
  refine o_mov rfl rfl ?_
  refine o_mov rfl rfl ?_
  refine o_mov rfl rfl ?_
  refine o_mov rfl rfl ?_
  refine o_mov rfl rfl ?_
  refine o_nil ?_
  refine sSeq_normal ?_
  refine s_mid (α := Unit) (fun _ => [(1, .pointer (some ⟨b0, 0, none⟩)), (3, .bool (fN x)), (4, .bool (fS x)), (5, .bool (fT x)), (6, .int .i64 (fLeast x)), (7, .int .i64 (fMost x))]) (fun _ => [(b0, .row x.cells true)]) (fun _ => True) ?_ ?_
  · skip
    refine s_seq ?_
    refine s_ops ?_
    refine o_fad rfl rfl ?_
    refine o_ld1 rfl (by first | exact .head _ | exact .tail _ (.head _) | exact .tail _ (.tail _ (.head _)) | exact .tail _ (.tail _ (.tail _ (.head _))) | exact .tail _ (.tail _ (.tail _ (.tail _ (.head _))))) rfl rfl ?_
    refine o_nil ?_
    refine sSeq_normal ?_
    refine s_block ?_
    refine s_seq ?_
    refine s_seq ?_
    refine s_ops ?_
    refine o_bin rfl rfl rfl rfl ?_
    refine o_mov rfl rfl ?_
    refine o_nil ?_
    refine sSeq_normal ?_
    refine s_cond rfl (fun hc0 => ?_) (fun hc0 => ?_)
    · skip
      refine s_skip ?_
      refine sSeq_normal ?_
      refine s_cond rfl (fun hc3 => ?_) (fun hc3 => ?_)
      · skip
        refine s_ops ?_
        refine o_mov rfl rfl ?_
        refine o_nil ?_
        refine sBlock_normal ?_
        exact sMid_normal () (subCons rfl (subEq rfl (by simp_all [fN]) (subEq rfl (by simp_all [fS]) (subEq rfl (by simp_all [fT]) (subEq rfl (by simp_all [fLeast]) (subEq rfl (by simp_all [fMost]) subNil)))))) (.refl _) trivial
      · skip
        refine s_seq ?_
        refine s_seq ?_
        refine s_ops ?_
        refine o_bin rfl rfl rfl rfl ?_
        refine o_mov rfl rfl ?_
        refine o_nil ?_
        refine sSeq_normal ?_
        refine s_cond rfl (fun hc4 => ?_) (fun hc4 => ?_)
        · skip
          refine s_skip ?_
          refine sSeq_normal ?_
          refine s_cond rfl (fun hc5 => ?_) (fun hc5 => ?_)
          · skip
            refine s_ops ?_
            refine o_mov rfl rfl ?_
            refine o_nil ?_
            refine sBlock_normal ?_
            exact sMid_normal () (subCons rfl (subEq rfl (by simp_all [fN]) (subEq rfl (by simp_all [fS]) (subEq rfl (by simp_all [fT]) (subEq rfl (by simp_all [fLeast]) (subEq rfl (by simp_all [fMost]) subNil)))))) (.refl _) trivial
          · skip
            refine s_seq ?_
            refine s_ops ?_
            refine o_bin rfl rfl rfl rfl ?_
            refine o_mov rfl rfl ?_
            refine o_nil ?_
            refine sSeq_normal ?_
            refine s_cond rfl (fun hc6 => ?_) (fun hc6 => ?_)
            · skip
              refine s_ops ?_
              refine o_mov rfl rfl ?_
              refine o_mov rfl rfl ?_
              refine o_nil ?_
              refine sBlock_normal ?_
              exact sMid_normal () (subCons rfl (subEq rfl (by simp_all [fN]) (subEq rfl (by simp_all [fS]) (subEq rfl (by simp_all [fT]) (subEq rfl (by simp_all [fLeast]) (subEq rfl (by simp_all [fMost]) subNil)))))) (.refl _) trivial
            · skip
              refine s_seq ?_
              refine s_seq ?_
              refine s_ops ?_
              refine o_bin rfl rfl rfl rfl ?_
              refine o_mov rfl rfl ?_
              refine o_nil ?_
              refine sSeq_normal ?_
              refine s_cond rfl (fun hc7 => ?_) (fun hc7 => ?_)
              · skip
                refine s_skip ?_
                refine sSeq_normal ?_
                refine s_cond rfl (fun hc8 => ?_) (fun hc8 => ?_)
                · skip
                  refine s_draw [true, true, true, true, false] rfl ?_
                  refine o_fad rfl rfl ?_
                  refine o_ld1 rfl (by first | exact .head _ | exact .tail _ (.head _) | exact .tail _ (.tail _ (.head _)) | exact .tail _ (.tail _ (.tail _ (.head _))) | exact .tail _ (.tail _ (.tail _ (.tail _ (.head _))))) rfl rfl ?_
                  refine o_mov rfl rfl ?_
                  refine o_mov rfl rfl ?_
                  refine o_mov rfl rfl ?_
                  refine o_nil ?_
                  refine sBlock_normal ?_
                  exact sMid_normal () (subCons rfl (subEq rfl (by simp_all [fN]) (subEq rfl (by simp_all [fS]) (subEq rfl (by simp_all [fT]) (subEq rfl (by simp_all [fLeast]) (subEq rfl (by simp_all [fMost]) subNil)))))) (.refl _) trivial
                · skip
                  refine s_seq ?_
                  refine s_ops ?_
                  refine o_bin rfl rfl rfl rfl ?_
                  refine o_mov rfl rfl ?_
                  refine o_nil ?_
                  refine sSeq_normal ?_
                  refine s_cond rfl (fun hc9 => ?_) (fun hc9 => ?_)
                  · skip
                    refine s_ops ?_
                    refine o_mov rfl rfl ?_
                    refine o_mov rfl rfl ?_
                    refine o_mov rfl rfl ?_
                    refine o_nil ?_
                    refine sBlock_normal ?_
                    exact sMid_normal () (subCons rfl (subEq rfl (by simp_all [fN]) (subEq rfl (by simp_all [fS]) (subEq rfl (by simp_all [fT]) (subEq rfl (by simp_all [fLeast]) (subEq rfl (by simp_all [fMost]) subNil)))))) (.refl _) trivial
                  · skip
                    refine s_seq ?_
                    refine s_ops ?_
                    refine o_bin rfl rfl rfl rfl ?_
                    refine o_mov rfl rfl ?_
                    refine o_nil ?_
                    refine sSeq_normal ?_
                    refine s_cond rfl (fun hc10 => ?_) (fun hc10 => ?_)
                    · skip
                      refine s_ops ?_
                      refine o_mov rfl rfl ?_
                      refine o_mov rfl rfl ?_
                      refine o_mov rfl rfl ?_
                      refine o_nil ?_
                      refine sBlock_normal ?_
                      exact sMid_normal () (subCons rfl (subEq rfl (by simp_all [fN]) (subEq rfl (by simp_all [fS]) (subEq rfl (by simp_all [fT]) (subEq rfl (by simp_all [fLeast]) (subEq rfl (by simp_all [fMost]) subNil)))))) (.refl _) trivial
                    · skip
                      refine s_skip ?_
                      refine sBlock_normal ?_
                      exact sMid_normal () (subCons rfl (subEq rfl (by simp_all [fN]) (subEq rfl (by simp_all [fS]) (subEq rfl (by simp_all [fT]) (subEq rfl (by simp_all [fLeast]) (subEq rfl (by simp_all [fMost]) subNil)))))) (.refl _) trivial
              · skip
                refine s_ops ?_
                refine o_bin rfl rfl rfl rfl ?_
                refine o_mov rfl rfl ?_
                refine o_nil ?_
                refine sSeq_normal ?_
                refine s_cond rfl (fun hc8 => ?_) (fun hc8 => ?_)
                · skip
                  refine s_draw [true, true, true, true, false] rfl ?_
                  refine o_fad rfl rfl ?_
                  refine o_ld1 rfl (by first | exact .head _ | exact .tail _ (.head _) | exact .tail _ (.tail _ (.head _)) | exact .tail _ (.tail _ (.tail _ (.head _))) | exact .tail _ (.tail _ (.tail _ (.tail _ (.head _))))) rfl rfl ?_
                  refine o_mov rfl rfl ?_
                  refine o_mov rfl rfl ?_
                  refine o_mov rfl rfl ?_
                  refine o_nil ?_
                  refine sBlock_normal ?_
                  exact sMid_normal () (subCons rfl (subEq rfl (by simp_all [fN]) (subEq rfl (by simp_all [fS]) (subEq rfl (by simp_all [fT]) (subEq rfl (by simp_all [fLeast]) (subEq rfl (by simp_all [fMost]) subNil)))))) (.refl _) trivial
                · skip
                  refine s_seq ?_
                  refine s_ops ?_
                  refine o_bin rfl rfl rfl rfl ?_
                  refine o_mov rfl rfl ?_
                  refine o_nil ?_
                  refine sSeq_normal ?_
                  refine s_cond rfl (fun hc9 => ?_) (fun hc9 => ?_)
                  · skip
                    refine s_ops ?_
                    refine o_mov rfl rfl ?_
                    refine o_mov rfl rfl ?_
                    refine o_mov rfl rfl ?_
                    refine o_nil ?_
                    refine sBlock_normal ?_
                    exact sMid_normal () (subCons rfl (subEq rfl (by simp_all [fN]) (subEq rfl (by simp_all [fS]) (subEq rfl (by simp_all [fT]) (subEq rfl (by simp_all [fLeast]) (subEq rfl (by simp_all [fMost]) subNil)))))) (.refl _) trivial
                  · skip
                    refine s_seq ?_
                    refine s_ops ?_
                    refine o_bin rfl rfl rfl rfl ?_
                    refine o_mov rfl rfl ?_
                    refine o_nil ?_
                    refine sSeq_normal ?_
                    refine s_cond rfl (fun hc10 => ?_) (fun hc10 => ?_)
                    · skip
                      refine s_ops ?_
                      refine o_mov rfl rfl ?_
                      refine o_mov rfl rfl ?_
                      refine o_mov rfl rfl ?_
                      refine o_nil ?_
                      refine sBlock_normal ?_
                      exact sMid_normal () (subCons rfl (subEq rfl (by simp_all [fN]) (subEq rfl (by simp_all [fS]) (subEq rfl (by simp_all [fT]) (subEq rfl (by simp_all [fLeast]) (subEq rfl (by simp_all [fMost]) subNil)))))) (.refl _) trivial
                    · skip
                      refine s_skip ?_
                      refine sBlock_normal ?_
                      exact sMid_normal () (subCons rfl (subEq rfl (by simp_all [fN]) (subEq rfl (by simp_all [fS]) (subEq rfl (by simp_all [fT]) (subEq rfl (by simp_all [fLeast]) (subEq rfl (by simp_all [fMost]) subNil)))))) (.refl _) trivial
        · skip
          refine s_ops ?_
          refine o_bin rfl rfl rfl rfl ?_
          refine o_mov rfl rfl ?_
          refine o_nil ?_
          refine sSeq_normal ?_
          refine s_cond rfl (fun hc5 => ?_) (fun hc5 => ?_)
          · skip
            refine s_ops ?_
            refine o_mov rfl rfl ?_
            refine o_nil ?_
            refine sBlock_normal ?_
            exact sMid_normal () (subCons rfl (subEq rfl (by simp_all [fN]) (subEq rfl (by simp_all [fS]) (subEq rfl (by simp_all [fT]) (subEq rfl (by simp_all [fLeast]) (subEq rfl (by simp_all [fMost]) subNil)))))) (.refl _) trivial
          · skip
            refine s_seq ?_
            refine s_ops ?_
            refine o_bin rfl rfl rfl rfl ?_
            refine o_mov rfl rfl ?_
            refine o_nil ?_
            refine sSeq_normal ?_
            refine s_cond rfl (fun hc6 => ?_) (fun hc6 => ?_)
            · skip
              refine s_ops ?_
              refine o_mov rfl rfl ?_
              refine o_mov rfl rfl ?_
              refine o_nil ?_
              refine sBlock_normal ?_
              exact sMid_normal () (subCons rfl (subEq rfl (by simp_all [fN]) (subEq rfl (by simp_all [fS]) (subEq rfl (by simp_all [fT]) (subEq rfl (by simp_all [fLeast]) (subEq rfl (by simp_all [fMost]) subNil)))))) (.refl _) trivial
            · skip
              refine s_seq ?_
              refine s_seq ?_
              refine s_ops ?_
              refine o_bin rfl rfl rfl rfl ?_
              refine o_mov rfl rfl ?_
              refine o_nil ?_
              refine sSeq_normal ?_
              refine s_cond rfl (fun hc7 => ?_) (fun hc7 => ?_)
              · skip
                refine s_skip ?_
                refine sSeq_normal ?_
                refine s_cond rfl (fun hc8 => ?_) (fun hc8 => ?_)
                · skip
                  refine s_draw [true, true, true, true, false] rfl ?_
                  refine o_fad rfl rfl ?_
                  refine o_ld1 rfl (by first | exact .head _ | exact .tail _ (.head _) | exact .tail _ (.tail _ (.head _)) | exact .tail _ (.tail _ (.tail _ (.head _))) | exact .tail _ (.tail _ (.tail _ (.tail _ (.head _))))) rfl rfl ?_
                  refine o_mov rfl rfl ?_
                  refine o_mov rfl rfl ?_
                  refine o_mov rfl rfl ?_
                  refine o_nil ?_
                  refine sBlock_normal ?_
                  exact sMid_normal () (subCons rfl (subEq rfl (by simp_all [fN]) (subEq rfl (by simp_all [fS]) (subEq rfl (by simp_all [fT]) (subEq rfl (by simp_all [fLeast]) (subEq rfl (by simp_all [fMost]) subNil)))))) (.refl _) trivial
                · skip
                  refine s_seq ?_
                  refine s_ops ?_
                  refine o_bin rfl rfl rfl rfl ?_
                  refine o_mov rfl rfl ?_
                  refine o_nil ?_
                  refine sSeq_normal ?_
                  refine s_cond rfl (fun hc9 => ?_) (fun hc9 => ?_)
                  · skip
                    refine s_ops ?_
                    refine o_mov rfl rfl ?_
                    refine o_mov rfl rfl ?_
                    refine o_mov rfl rfl ?_
                    refine o_nil ?_
                    refine sBlock_normal ?_
                    exact sMid_normal () (subCons rfl (subEq rfl (by simp_all [fN]) (subEq rfl (by simp_all [fS]) (subEq rfl (by simp_all [fT]) (subEq rfl (by simp_all [fLeast]) (subEq rfl (by simp_all [fMost]) subNil)))))) (.refl _) trivial
                  · skip
                    refine s_seq ?_
                    refine s_ops ?_
                    refine o_bin rfl rfl rfl rfl ?_
                    refine o_mov rfl rfl ?_
                    refine o_nil ?_
                    refine sSeq_normal ?_
                    refine s_cond rfl (fun hc10 => ?_) (fun hc10 => ?_)
                    · skip
                      refine s_ops ?_
                      refine o_mov rfl rfl ?_
                      refine o_mov rfl rfl ?_
                      refine o_mov rfl rfl ?_
                      refine o_nil ?_
                      refine sBlock_normal ?_
                      exact sMid_normal () (subCons rfl (subEq rfl (by simp_all [fN]) (subEq rfl (by simp_all [fS]) (subEq rfl (by simp_all [fT]) (subEq rfl (by simp_all [fLeast]) (subEq rfl (by simp_all [fMost]) subNil)))))) (.refl _) trivial
                    · skip
                      refine s_skip ?_
                      refine sBlock_normal ?_
                      exact sMid_normal () (subCons rfl (subEq rfl (by simp_all [fN]) (subEq rfl (by simp_all [fS]) (subEq rfl (by simp_all [fT]) (subEq rfl (by simp_all [fLeast]) (subEq rfl (by simp_all [fMost]) subNil)))))) (.refl _) trivial
              · skip
                refine s_ops ?_
                refine o_bin rfl rfl rfl rfl ?_
                refine o_mov rfl rfl ?_
                refine o_nil ?_
                refine sSeq_normal ?_
                refine s_cond rfl (fun hc8 => ?_) (fun hc8 => ?_)
                · skip
                  refine s_draw [true, true, true, true, false] rfl ?_
                  refine o_fad rfl rfl ?_
                  refine o_ld1 rfl (by first | exact .head _ | exact .tail _ (.head _) | exact .tail _ (.tail _ (.head _)) | exact .tail _ (.tail _ (.tail _ (.head _))) | exact .tail _ (.tail _ (.tail _ (.tail _ (.head _))))) rfl rfl ?_
                  refine o_mov rfl rfl ?_
                  refine o_mov rfl rfl ?_
                  refine o_mov rfl rfl ?_
                  refine o_nil ?_
                  refine sBlock_normal ?_
                  exact sMid_normal () (subCons rfl (subEq rfl (by simp_all [fN]) (subEq rfl (by simp_all [fS]) (subEq rfl (by simp_all [fT]) (subEq rfl (by simp_all [fLeast]) (subEq rfl (by simp_all [fMost]) subNil)))))) (.refl _) trivial
                · skip
                  refine s_seq ?_
                  refine s_ops ?_
                  refine o_bin rfl rfl rfl rfl ?_
                  refine o_mov rfl rfl ?_
                  refine o_nil ?_
                  refine sSeq_normal ?_
                  refine s_cond rfl (fun hc9 => ?_) (fun hc9 => ?_)
                  · skip
                    refine s_ops ?_
                    refine o_mov rfl rfl ?_
                    refine o_mov rfl rfl ?_
                    refine o_mov rfl rfl ?_
                    refine o_nil ?_
                    refine sBlock_normal ?_
                    exact sMid_normal () (subCons rfl (subEq rfl (by simp_all [fN]) (subEq rfl (by simp_all [fS]) (subEq rfl (by simp_all [fT]) (subEq rfl (by simp_all [fLeast]) (subEq rfl (by simp_all [fMost]) subNil)))))) (.refl _) trivial
                  · skip
                    refine s_seq ?_
                    refine s_ops ?_
                    refine o_bin rfl rfl rfl rfl ?_
                    refine o_mov rfl rfl ?_
                    refine o_nil ?_
                    refine sSeq_normal ?_
                    refine s_cond rfl (fun hc10 => ?_) (fun hc10 => ?_)
                    · skip
                      refine s_ops ?_
                      refine o_mov rfl rfl ?_
                      refine o_mov rfl rfl ?_
                      refine o_mov rfl rfl ?_
                      refine o_nil ?_
                      refine sBlock_normal ?_
                      exact sMid_normal () (subCons rfl (subEq rfl (by simp_all [fN]) (subEq rfl (by simp_all [fS]) (subEq rfl (by simp_all [fT]) (subEq rfl (by simp_all [fLeast]) (subEq rfl (by simp_all [fMost]) subNil)))))) (.refl _) trivial
                    · skip
                      refine s_skip ?_
                      refine sBlock_normal ?_
                      exact sMid_normal () (subCons rfl (subEq rfl (by simp_all [fN]) (subEq rfl (by simp_all [fS]) (subEq rfl (by simp_all [fT]) (subEq rfl (by simp_all [fLeast]) (subEq rfl (by simp_all [fMost]) subNil)))))) (.refl _) trivial
    · skip
      refine s_seq ?_
      refine s_ops ?_
      refine o_bin rfl rfl rfl rfl ?_
      refine o_mov rfl rfl ?_
      refine o_nil ?_
      refine sSeq_normal ?_
      refine s_cond rfl (fun hc1 => ?_) (fun hc1 => ?_)
      · skip
        refine s_skip ?_
        refine sSeq_normal ?_
        refine s_cond rfl (fun hc3 => ?_) (fun hc3 => ?_)
        · skip
          refine s_ops ?_
          refine o_mov rfl rfl ?_
          refine o_nil ?_
          refine sBlock_normal ?_
          exact sMid_normal () (subCons rfl (subEq rfl (by simp_all [fN]) (subEq rfl (by simp_all [fS]) (subEq rfl (by simp_all [fT]) (subEq rfl (by simp_all [fLeast]) (subEq rfl (by simp_all [fMost]) subNil)))))) (.refl _) trivial
        · skip
          refine s_seq ?_
          refine s_seq ?_
          refine s_ops ?_
          refine o_bin rfl rfl rfl rfl ?_
          refine o_mov rfl rfl ?_
          refine o_nil ?_
          refine sSeq_normal ?_
          refine s_cond rfl (fun hc4 => ?_) (fun hc4 => ?_)
          · skip
            refine s_skip ?_
            refine sSeq_normal ?_
            refine s_cond rfl (fun hc5 => ?_) (fun hc5 => ?_)
            · skip
              refine s_ops ?_
              refine o_mov rfl rfl ?_
              refine o_nil ?_
              refine sBlock_normal ?_
              exact sMid_normal () (subCons rfl (subEq rfl (by simp_all [fN]) (subEq rfl (by simp_all [fS]) (subEq rfl (by simp_all [fT]) (subEq rfl (by simp_all [fLeast]) (subEq rfl (by simp_all [fMost]) subNil)))))) (.refl _) trivial
            · skip
              refine s_seq ?_
              refine s_ops ?_
              refine o_bin rfl rfl rfl rfl ?_
              refine o_mov rfl rfl ?_
              refine o_nil ?_
              refine sSeq_normal ?_
              refine s_cond rfl (fun hc6 => ?_) (fun hc6 => ?_)
              · skip
                refine s_ops ?_
                refine o_mov rfl rfl ?_
                refine o_mov rfl rfl ?_
                refine o_nil ?_
                refine sBlock_normal ?_
                exact sMid_normal () (subCons rfl (subEq rfl (by simp_all [fN]) (subEq rfl (by simp_all [fS]) (subEq rfl (by simp_all [fT]) (subEq rfl (by simp_all [fLeast]) (subEq rfl (by simp_all [fMost]) subNil)))))) (.refl _) trivial
              · skip
                refine s_seq ?_
                refine s_seq ?_
                refine s_ops ?_
                refine o_bin rfl rfl rfl rfl ?_
                refine o_mov rfl rfl ?_
                refine o_nil ?_
                refine sSeq_normal ?_
                refine s_cond rfl (fun hc7 => ?_) (fun hc7 => ?_)
                · skip
                  refine s_skip ?_
                  refine sSeq_normal ?_
                  refine s_cond rfl (fun hc8 => ?_) (fun hc8 => ?_)
                  · skip
                    refine s_draw [true, true, true, true, false] rfl ?_
                    refine o_fad rfl rfl ?_
                    refine o_ld1 rfl (by first | exact .head _ | exact .tail _ (.head _) | exact .tail _ (.tail _ (.head _)) | exact .tail _ (.tail _ (.tail _ (.head _))) | exact .tail _ (.tail _ (.tail _ (.tail _ (.head _))))) rfl rfl ?_
                    refine o_mov rfl rfl ?_
                    refine o_mov rfl rfl ?_
                    refine o_mov rfl rfl ?_
                    refine o_nil ?_
                    refine sBlock_normal ?_
                    exact sMid_normal () (subCons rfl (subEq rfl (by simp_all [fN]) (subEq rfl (by simp_all [fS]) (subEq rfl (by simp_all [fT]) (subEq rfl (by simp_all [fLeast]) (subEq rfl (by simp_all [fMost]) subNil)))))) (.refl _) trivial
                  · skip
                    refine s_seq ?_
                    refine s_ops ?_
                    refine o_bin rfl rfl rfl rfl ?_
                    refine o_mov rfl rfl ?_
                    refine o_nil ?_
                    refine sSeq_normal ?_
                    refine s_cond rfl (fun hc9 => ?_) (fun hc9 => ?_)
                    · skip
                      refine s_ops ?_
                      refine o_mov rfl rfl ?_
                      refine o_mov rfl rfl ?_
                      refine o_mov rfl rfl ?_
                      refine o_nil ?_
                      refine sBlock_normal ?_
                      exact sMid_normal () (subCons rfl (subEq rfl (by simp_all [fN]) (subEq rfl (by simp_all [fS]) (subEq rfl (by simp_all [fT]) (subEq rfl (by simp_all [fLeast]) (subEq rfl (by simp_all [fMost]) subNil)))))) (.refl _) trivial
                    · skip
                      refine s_seq ?_
                      refine s_ops ?_
                      refine o_bin rfl rfl rfl rfl ?_
                      refine o_mov rfl rfl ?_
                      refine o_nil ?_
                      refine sSeq_normal ?_
                      refine s_cond rfl (fun hc10 => ?_) (fun hc10 => ?_)
                      · skip
                        refine s_ops ?_
                        refine o_mov rfl rfl ?_
                        refine o_mov rfl rfl ?_
                        refine o_mov rfl rfl ?_
                        refine o_nil ?_
                        refine sBlock_normal ?_
                        exact sMid_normal () (subCons rfl (subEq rfl (by simp_all [fN]) (subEq rfl (by simp_all [fS]) (subEq rfl (by simp_all [fT]) (subEq rfl (by simp_all [fLeast]) (subEq rfl (by simp_all [fMost]) subNil)))))) (.refl _) trivial
                      · skip
                        refine s_skip ?_
                        refine sBlock_normal ?_
                        exact sMid_normal () (subCons rfl (subEq rfl (by simp_all [fN]) (subEq rfl (by simp_all [fS]) (subEq rfl (by simp_all [fT]) (subEq rfl (by simp_all [fLeast]) (subEq rfl (by simp_all [fMost]) subNil)))))) (.refl _) trivial
                · skip
                  refine s_ops ?_
                  refine o_bin rfl rfl rfl rfl ?_
                  refine o_mov rfl rfl ?_
                  refine o_nil ?_
                  refine sSeq_normal ?_
                  refine s_cond rfl (fun hc8 => ?_) (fun hc8 => ?_)
                  · skip
                    refine s_draw [true, true, true, true, false] rfl ?_
                    refine o_fad rfl rfl ?_
                    refine o_ld1 rfl (by first | exact .head _ | exact .tail _ (.head _) | exact .tail _ (.tail _ (.head _)) | exact .tail _ (.tail _ (.tail _ (.head _))) | exact .tail _ (.tail _ (.tail _ (.tail _ (.head _))))) rfl rfl ?_
                    refine o_mov rfl rfl ?_
                    refine o_mov rfl rfl ?_
                    refine o_mov rfl rfl ?_
                    refine o_nil ?_
                    refine sBlock_normal ?_
                    exact sMid_normal () (subCons rfl (subEq rfl (by simp_all [fN]) (subEq rfl (by simp_all [fS]) (subEq rfl (by simp_all [fT]) (subEq rfl (by simp_all [fLeast]) (subEq rfl (by simp_all [fMost]) subNil)))))) (.refl _) trivial
                  · skip
                    refine s_seq ?_
                    refine s_ops ?_
                    refine o_bin rfl rfl rfl rfl ?_
                    refine o_mov rfl rfl ?_
                    refine o_nil ?_
                    refine sSeq_normal ?_
                    refine s_cond rfl (fun hc9 => ?_) (fun hc9 => ?_)
                    · skip
                      refine s_ops ?_
                      refine o_mov rfl rfl ?_
                      refine o_mov rfl rfl ?_
                      refine o_mov rfl rfl ?_
                      refine o_nil ?_
                      refine sBlock_normal ?_
                      exact sMid_normal () (subCons rfl (subEq rfl (by simp_all [fN]) (subEq rfl (by simp_all [fS]) (subEq rfl (by simp_all [fT]) (subEq rfl (by simp_all [fLeast]) (subEq rfl (by simp_all [fMost]) subNil)))))) (.refl _) trivial
                    · skip
                      refine s_seq ?_
                      refine s_ops ?_
                      refine o_bin rfl rfl rfl rfl ?_
                      refine o_mov rfl rfl ?_
                      refine o_nil ?_
                      refine sSeq_normal ?_
                      refine s_cond rfl (fun hc10 => ?_) (fun hc10 => ?_)
                      · skip
                        refine s_ops ?_
                        refine o_mov rfl rfl ?_
                        refine o_mov rfl rfl ?_
                        refine o_mov rfl rfl ?_
                        refine o_nil ?_
                        refine sBlock_normal ?_
                        exact sMid_normal () (subCons rfl (subEq rfl (by simp_all [fN]) (subEq rfl (by simp_all [fS]) (subEq rfl (by simp_all [fT]) (subEq rfl (by simp_all [fLeast]) (subEq rfl (by simp_all [fMost]) subNil)))))) (.refl _) trivial
                      · skip
                        refine s_skip ?_
                        refine sBlock_normal ?_
                        exact sMid_normal () (subCons rfl (subEq rfl (by simp_all [fN]) (subEq rfl (by simp_all [fS]) (subEq rfl (by simp_all [fT]) (subEq rfl (by simp_all [fLeast]) (subEq rfl (by simp_all [fMost]) subNil)))))) (.refl _) trivial
          · skip
            refine s_ops ?_
            refine o_bin rfl rfl rfl rfl ?_
            refine o_mov rfl rfl ?_
            refine o_nil ?_
            refine sSeq_normal ?_
            refine s_cond rfl (fun hc5 => ?_) (fun hc5 => ?_)
            · skip
              refine s_ops ?_
              refine o_mov rfl rfl ?_
              refine o_nil ?_
              refine sBlock_normal ?_
              exact sMid_normal () (subCons rfl (subEq rfl (by simp_all [fN]) (subEq rfl (by simp_all [fS]) (subEq rfl (by simp_all [fT]) (subEq rfl (by simp_all [fLeast]) (subEq rfl (by simp_all [fMost]) subNil)))))) (.refl _) trivial
            · skip
              refine s_seq ?_
              refine s_ops ?_
              refine o_bin rfl rfl rfl rfl ?_
              refine o_mov rfl rfl ?_
              refine o_nil ?_
              refine sSeq_normal ?_
              refine s_cond rfl (fun hc6 => ?_) (fun hc6 => ?_)
              · skip
                refine s_ops ?_
                refine o_mov rfl rfl ?_
                refine o_mov rfl rfl ?_
                refine o_nil ?_
                refine sBlock_normal ?_
                exact sMid_normal () (subCons rfl (subEq rfl (by simp_all [fN]) (subEq rfl (by simp_all [fS]) (subEq rfl (by simp_all [fT]) (subEq rfl (by simp_all [fLeast]) (subEq rfl (by simp_all [fMost]) subNil)))))) (.refl _) trivial
              · skip
                refine s_seq ?_
                refine s_seq ?_
                refine s_ops ?_
                refine o_bin rfl rfl rfl rfl ?_
                refine o_mov rfl rfl ?_
                refine o_nil ?_
                refine sSeq_normal ?_
                refine s_cond rfl (fun hc7 => ?_) (fun hc7 => ?_)
                · skip
                  refine s_skip ?_
                  refine sSeq_normal ?_
                  refine s_cond rfl (fun hc8 => ?_) (fun hc8 => ?_)
                  · skip
                    refine s_draw [true, true, true, true, false] rfl ?_
                    refine o_fad rfl rfl ?_
                    refine o_ld1 rfl (by first | exact .head _ | exact .tail _ (.head _) | exact .tail _ (.tail _ (.head _)) | exact .tail _ (.tail _ (.tail _ (.head _))) | exact .tail _ (.tail _ (.tail _ (.tail _ (.head _))))) rfl rfl ?_
                    refine o_mov rfl rfl ?_
                    refine o_mov rfl rfl ?_
                    refine o_mov rfl rfl ?_
                    refine o_nil ?_
                    refine sBlock_normal ?_
                    exact sMid_normal () (subCons rfl (subEq rfl (by simp_all [fN]) (subEq rfl (by simp_all [fS]) (subEq rfl (by simp_all [fT]) (subEq rfl (by simp_all [fLeast]) (subEq rfl (by simp_all [fMost]) subNil)))))) (.refl _) trivial
                  · skip
                    refine s_seq ?_
                    refine s_ops ?_
                    refine o_bin rfl rfl rfl rfl ?_
                    refine o_mov rfl rfl ?_
                    refine o_nil ?_
                    refine sSeq_normal ?_
                    refine s_cond rfl (fun hc9 => ?_) (fun hc9 => ?_)
                    · skip
                      refine s_ops ?_
                      refine o_mov rfl rfl ?_
                      refine o_mov rfl rfl ?_
                      refine o_mov rfl rfl ?_
                      refine o_nil ?_
                      refine sBlock_normal ?_
                      exact sMid_normal () (subCons rfl (subEq rfl (by simp_all [fN]) (subEq rfl (by simp_all [fS]) (subEq rfl (by simp_all [fT]) (subEq rfl (by simp_all [fLeast]) (subEq rfl (by simp_all [fMost]) subNil)))))) (.refl _) trivial
                    · skip
                      refine s_seq ?_
                      refine s_ops ?_
                      refine o_bin rfl rfl rfl rfl ?_
                      refine o_mov rfl rfl ?_
                      refine o_nil ?_
                      refine sSeq_normal ?_
                      refine s_cond rfl (fun hc10 => ?_) (fun hc10 => ?_)
                      · skip
                        refine s_ops ?_
                        refine o_mov rfl rfl ?_
                        refine o_mov rfl rfl ?_
                        refine o_mov rfl rfl ?_
                        refine o_nil ?_
                        refine sBlock_normal ?_
                        exact sMid_normal () (subCons rfl (subEq rfl (by simp_all [fN]) (subEq rfl (by simp_all [fS]) (subEq rfl (by simp_all [fT]) (subEq rfl (by simp_all [fLeast]) (subEq rfl (by simp_all [fMost]) subNil)))))) (.refl _) trivial
                      · skip
                        refine s_skip ?_
                        refine sBlock_normal ?_
                        exact sMid_normal () (subCons rfl (subEq rfl (by simp_all [fN]) (subEq rfl (by simp_all [fS]) (subEq rfl (by simp_all [fT]) (subEq rfl (by simp_all [fLeast]) (subEq rfl (by simp_all [fMost]) subNil)))))) (.refl _) trivial
                · skip
                  refine s_ops ?_
                  refine o_bin rfl rfl rfl rfl ?_
                  refine o_mov rfl rfl ?_
                  refine o_nil ?_
                  refine sSeq_normal ?_
                  refine s_cond rfl (fun hc8 => ?_) (fun hc8 => ?_)
                  · skip
                    refine s_draw [true, true, true, true, false] rfl ?_
                    refine o_fad rfl rfl ?_
                    refine o_ld1 rfl (by first | exact .head _ | exact .tail _ (.head _) | exact .tail _ (.tail _ (.head _)) | exact .tail _ (.tail _ (.tail _ (.head _))) | exact .tail _ (.tail _ (.tail _ (.tail _ (.head _))))) rfl rfl ?_
                    refine o_mov rfl rfl ?_
                    refine o_mov rfl rfl ?_
                    refine o_mov rfl rfl ?_
                    refine o_nil ?_
                    refine sBlock_normal ?_
                    exact sMid_normal () (subCons rfl (subEq rfl (by simp_all [fN]) (subEq rfl (by simp_all [fS]) (subEq rfl (by simp_all [fT]) (subEq rfl (by simp_all [fLeast]) (subEq rfl (by simp_all [fMost]) subNil)))))) (.refl _) trivial
                  · skip
                    refine s_seq ?_
                    refine s_ops ?_
                    refine o_bin rfl rfl rfl rfl ?_
                    refine o_mov rfl rfl ?_
                    refine o_nil ?_
                    refine sSeq_normal ?_
                    refine s_cond rfl (fun hc9 => ?_) (fun hc9 => ?_)
                    · skip
                      refine s_ops ?_
                      refine o_mov rfl rfl ?_
                      refine o_mov rfl rfl ?_
                      refine o_mov rfl rfl ?_
                      refine o_nil ?_
                      refine sBlock_normal ?_
                      exact sMid_normal () (subCons rfl (subEq rfl (by simp_all [fN]) (subEq rfl (by simp_all [fS]) (subEq rfl (by simp_all [fT]) (subEq rfl (by simp_all [fLeast]) (subEq rfl (by simp_all [fMost]) subNil)))))) (.refl _) trivial
                    · skip
                      refine s_seq ?_
                      refine s_ops ?_
                      refine o_bin rfl rfl rfl rfl ?_
                      refine o_mov rfl rfl ?_
                      refine o_nil ?_
                      refine sSeq_normal ?_
                      refine s_cond rfl (fun hc10 => ?_) (fun hc10 => ?_)
                      · skip
                        refine s_ops ?_
                        refine o_mov rfl rfl ?_
                        refine o_mov rfl rfl ?_
                        refine o_mov rfl rfl ?_
                        refine o_nil ?_
                        refine sBlock_normal ?_
                        exact sMid_normal () (subCons rfl (subEq rfl (by simp_all [fN]) (subEq rfl (by simp_all [fS]) (subEq rfl (by simp_all [fT]) (subEq rfl (by simp_all [fLeast]) (subEq rfl (by simp_all [fMost]) subNil)))))) (.refl _) trivial
                      · skip
                        refine s_skip ?_
                        refine sBlock_normal ?_
                        exact sMid_normal () (subCons rfl (subEq rfl (by simp_all [fN]) (subEq rfl (by simp_all [fS]) (subEq rfl (by simp_all [fT]) (subEq rfl (by simp_all [fLeast]) (subEq rfl (by simp_all [fMost]) subNil)))))) (.refl _) trivial
      · skip
        refine s_seq ?_
        refine s_ops ?_
        refine o_bin rfl rfl rfl rfl ?_
        refine o_mov rfl rfl ?_
        refine o_nil ?_
        refine sSeq_normal ?_
        refine s_cond rfl (fun hc2 => ?_) (fun hc2 => ?_)
        · skip
          refine s_skip ?_
          refine sSeq_normal ?_
          refine s_cond rfl (fun hc3 => ?_) (fun hc3 => ?_)
          · skip
            refine s_ops ?_
            refine o_mov rfl rfl ?_
            refine o_nil ?_
            refine sBlock_normal ?_
            exact sMid_normal () (subCons rfl (subEq rfl (by simp_all [fN]) (subEq rfl (by simp_all [fS]) (subEq rfl (by simp_all [fT]) (subEq rfl (by simp_all [fLeast]) (subEq rfl (by simp_all [fMost]) subNil)))))) (.refl _) trivial
          · skip
            refine s_seq ?_
            refine s_seq ?_
            refine s_ops ?_
            refine o_bin rfl rfl rfl rfl ?_
            refine o_mov rfl rfl ?_
            refine o_nil ?_
            refine sSeq_normal ?_
            refine s_cond rfl (fun hc4 => ?_) (fun hc4 => ?_)
            · skip
              refine s_skip ?_
              refine sSeq_normal ?_
              refine s_cond rfl (fun hc5 => ?_) (fun hc5 => ?_)
              · skip
                refine s_ops ?_
                refine o_mov rfl rfl ?_
                refine o_nil ?_
                refine sBlock_normal ?_
                exact sMid_normal () (subCons rfl (subEq rfl (by simp_all [fN]) (subEq rfl (by simp_all [fS]) (subEq rfl (by simp_all [fT]) (subEq rfl (by simp_all [fLeast]) (subEq rfl (by simp_all [fMost]) subNil)))))) (.refl _) trivial
              · skip
                refine s_seq ?_
                refine s_ops ?_
                refine o_bin rfl rfl rfl rfl ?_
                refine o_mov rfl rfl ?_
                refine o_nil ?_
                refine sSeq_normal ?_
                refine s_cond rfl (fun hc6 => ?_) (fun hc6 => ?_)
                · skip
                  refine s_ops ?_
                  refine o_mov rfl rfl ?_
                  refine o_mov rfl rfl ?_
                  refine o_nil ?_
                  refine sBlock_normal ?_
                  exact sMid_normal () (subCons rfl (subEq rfl (by simp_all [fN]) (subEq rfl (by simp_all [fS]) (subEq rfl (by simp_all [fT]) (subEq rfl (by simp_all [fLeast]) (subEq rfl (by simp_all [fMost]) subNil)))))) (.refl _) trivial
                · skip
                  refine s_seq ?_
                  refine s_seq ?_
                  refine s_ops ?_
                  refine o_bin rfl rfl rfl rfl ?_
                  refine o_mov rfl rfl ?_
                  refine o_nil ?_
                  refine sSeq_normal ?_
                  refine s_cond rfl (fun hc7 => ?_) (fun hc7 => ?_)
                  · skip
                    refine s_skip ?_
                    refine sSeq_normal ?_
                    refine s_cond rfl (fun hc8 => ?_) (fun hc8 => ?_)
                    · skip
                      refine s_draw [true, true, true, true, false] rfl ?_
                      refine o_fad rfl rfl ?_
                      refine o_ld1 rfl (by first | exact .head _ | exact .tail _ (.head _) | exact .tail _ (.tail _ (.head _)) | exact .tail _ (.tail _ (.tail _ (.head _))) | exact .tail _ (.tail _ (.tail _ (.tail _ (.head _))))) rfl rfl ?_
                      refine o_mov rfl rfl ?_
                      refine o_mov rfl rfl ?_
                      refine o_mov rfl rfl ?_
                      refine o_nil ?_
                      refine sBlock_normal ?_
                      exact sMid_normal () (subCons rfl (subEq rfl (by simp_all [fN]) (subEq rfl (by simp_all [fS]) (subEq rfl (by simp_all [fT]) (subEq rfl (by simp_all [fLeast]) (subEq rfl (by simp_all [fMost]) subNil)))))) (.refl _) trivial
                    · skip
                      refine s_seq ?_
                      refine s_ops ?_
                      refine o_bin rfl rfl rfl rfl ?_
                      refine o_mov rfl rfl ?_
                      refine o_nil ?_
                      refine sSeq_normal ?_
                      refine s_cond rfl (fun hc9 => ?_) (fun hc9 => ?_)
                      · skip
                        refine s_ops ?_
                        refine o_mov rfl rfl ?_
                        refine o_mov rfl rfl ?_
                        refine o_mov rfl rfl ?_
                        refine o_nil ?_
                        refine sBlock_normal ?_
                        exact sMid_normal () (subCons rfl (subEq rfl (by simp_all [fN]) (subEq rfl (by simp_all [fS]) (subEq rfl (by simp_all [fT]) (subEq rfl (by simp_all [fLeast]) (subEq rfl (by simp_all [fMost]) subNil)))))) (.refl _) trivial
                      · skip
                        refine s_seq ?_
                        refine s_ops ?_
                        refine o_bin rfl rfl rfl rfl ?_
                        refine o_mov rfl rfl ?_
                        refine o_nil ?_
                        refine sSeq_normal ?_
                        refine s_cond rfl (fun hc10 => ?_) (fun hc10 => ?_)
                        · skip
                          refine s_ops ?_
                          refine o_mov rfl rfl ?_
                          refine o_mov rfl rfl ?_
                          refine o_mov rfl rfl ?_
                          refine o_nil ?_
                          refine sBlock_normal ?_
                          exact sMid_normal () (subCons rfl (subEq rfl (by simp_all [fN]) (subEq rfl (by simp_all [fS]) (subEq rfl (by simp_all [fT]) (subEq rfl (by simp_all [fLeast]) (subEq rfl (by simp_all [fMost]) subNil)))))) (.refl _) trivial
                        · skip
                          refine s_skip ?_
                          refine sBlock_normal ?_
                          exact sMid_normal () (subCons rfl (subEq rfl (by simp_all [fN]) (subEq rfl (by simp_all [fS]) (subEq rfl (by simp_all [fT]) (subEq rfl (by simp_all [fLeast]) (subEq rfl (by simp_all [fMost]) subNil)))))) (.refl _) trivial
                  · skip
                    refine s_ops ?_
                    refine o_bin rfl rfl rfl rfl ?_
                    refine o_mov rfl rfl ?_
                    refine o_nil ?_
                    refine sSeq_normal ?_
                    refine s_cond rfl (fun hc8 => ?_) (fun hc8 => ?_)
                    · skip
                      refine s_draw [true, true, true, true, false] rfl ?_
                      refine o_fad rfl rfl ?_
                      refine o_ld1 rfl (by first | exact .head _ | exact .tail _ (.head _) | exact .tail _ (.tail _ (.head _)) | exact .tail _ (.tail _ (.tail _ (.head _))) | exact .tail _ (.tail _ (.tail _ (.tail _ (.head _))))) rfl rfl ?_
                      refine o_mov rfl rfl ?_
                      refine o_mov rfl rfl ?_
                      refine o_mov rfl rfl ?_
                      refine o_nil ?_
                      refine sBlock_normal ?_
                      exact sMid_normal () (subCons rfl (subEq rfl (by simp_all [fN]) (subEq rfl (by simp_all [fS]) (subEq rfl (by simp_all [fT]) (subEq rfl (by simp_all [fLeast]) (subEq rfl (by simp_all [fMost]) subNil)))))) (.refl _) trivial
                    · skip
                      refine s_seq ?_
                      refine s_ops ?_
                      refine o_bin rfl rfl rfl rfl ?_
                      refine o_mov rfl rfl ?_
                      refine o_nil ?_
                      refine sSeq_normal ?_
                      refine s_cond rfl (fun hc9 => ?_) (fun hc9 => ?_)
                      · skip
                        refine s_ops ?_
                        refine o_mov rfl rfl ?_
                        refine o_mov rfl rfl ?_
                        refine o_mov rfl rfl ?_
                        refine o_nil ?_
                        refine sBlock_normal ?_
                        exact sMid_normal () (subCons rfl (subEq rfl (by simp_all [fN]) (subEq rfl (by simp_all [fS]) (subEq rfl (by simp_all [fT]) (subEq rfl (by simp_all [fLeast]) (subEq rfl (by simp_all [fMost]) subNil)))))) (.refl _) trivial
                      · skip
                        refine s_seq ?_
                        refine s_ops ?_
                        refine o_bin rfl rfl rfl rfl ?_
                        refine o_mov rfl rfl ?_
                        refine o_nil ?_
                        refine sSeq_normal ?_
                        refine s_cond rfl (fun hc10 => ?_) (fun hc10 => ?_)
                        · skip
                          refine s_ops ?_
                          refine o_mov rfl rfl ?_
                          refine o_mov rfl rfl ?_
                          refine o_mov rfl rfl ?_
                          refine o_nil ?_
                          refine sBlock_normal ?_
                          exact sMid_normal () (subCons rfl (subEq rfl (by simp_all [fN]) (subEq rfl (by simp_all [fS]) (subEq rfl (by simp_all [fT]) (subEq rfl (by simp_all [fLeast]) (subEq rfl (by simp_all [fMost]) subNil)))))) (.refl _) trivial
                        · skip
                          refine s_skip ?_
                          refine sBlock_normal ?_
                          exact sMid_normal () (subCons rfl (subEq rfl (by simp_all [fN]) (subEq rfl (by simp_all [fS]) (subEq rfl (by simp_all [fT]) (subEq rfl (by simp_all [fLeast]) (subEq rfl (by simp_all [fMost]) subNil)))))) (.refl _) trivial
            · skip
              refine s_ops ?_
              refine o_bin rfl rfl rfl rfl ?_
              refine o_mov rfl rfl ?_
              refine o_nil ?_
              refine sSeq_normal ?_
              refine s_cond rfl (fun hc5 => ?_) (fun hc5 => ?_)
              · skip
                refine s_ops ?_
                refine o_mov rfl rfl ?_
                refine o_nil ?_
                refine sBlock_normal ?_
                exact sMid_normal () (subCons rfl (subEq rfl (by simp_all [fN]) (subEq rfl (by simp_all [fS]) (subEq rfl (by simp_all [fT]) (subEq rfl (by simp_all [fLeast]) (subEq rfl (by simp_all [fMost]) subNil)))))) (.refl _) trivial
              · skip
                refine s_seq ?_
                refine s_ops ?_
                refine o_bin rfl rfl rfl rfl ?_
                refine o_mov rfl rfl ?_
                refine o_nil ?_
                refine sSeq_normal ?_
                refine s_cond rfl (fun hc6 => ?_) (fun hc6 => ?_)
                · skip
                  refine s_ops ?_
                  refine o_mov rfl rfl ?_
                  refine o_mov rfl rfl ?_
                  refine o_nil ?_
                  refine sBlock_normal ?_
                  exact sMid_normal () (subCons rfl (subEq rfl (by simp_all [fN]) (subEq rfl (by simp_all [fS]) (subEq rfl (by simp_all [fT]) (subEq rfl (by simp_all [fLeast]) (subEq rfl (by simp_all [fMost]) subNil)))))) (.refl _) trivial
                · skip
                  refine s_seq ?_
                  refine s_seq ?_
                  refine s_ops ?_
                  refine o_bin rfl rfl rfl rfl ?_
                  refine o_mov rfl rfl ?_
                  refine o_nil ?_
                  refine sSeq_normal ?_
                  refine s_cond rfl (fun hc7 => ?_) (fun hc7 => ?_)
                  · skip
                    refine s_skip ?_
                    refine sSeq_normal ?_
                    refine s_cond rfl (fun hc8 => ?_) (fun hc8 => ?_)
                    · skip
                      refine s_draw [true, true, true, true, false] rfl ?_
                      refine o_fad rfl rfl ?_
                      refine o_ld1 rfl (by first | exact .head _ | exact .tail _ (.head _) | exact .tail _ (.tail _ (.head _)) | exact .tail _ (.tail _ (.tail _ (.head _))) | exact .tail _ (.tail _ (.tail _ (.tail _ (.head _))))) rfl rfl ?_
                      refine o_mov rfl rfl ?_
                      refine o_mov rfl rfl ?_
                      refine o_mov rfl rfl ?_
                      refine o_nil ?_
                      refine sBlock_normal ?_
                      exact sMid_normal () (subCons rfl (subEq rfl (by simp_all [fN]) (subEq rfl (by simp_all [fS]) (subEq rfl (by simp_all [fT]) (subEq rfl (by simp_all [fLeast]) (subEq rfl (by simp_all [fMost]) subNil)))))) (.refl _) trivial
                    · skip
                      refine s_seq ?_
                      refine s_ops ?_
                      refine o_bin rfl rfl rfl rfl ?_
                      refine o_mov rfl rfl ?_
                      refine o_nil ?_
                      refine sSeq_normal ?_
                      refine s_cond rfl (fun hc9 => ?_) (fun hc9 => ?_)
                      · skip
                        refine s_ops ?_
                        refine o_mov rfl rfl ?_
                        refine o_mov rfl rfl ?_
                        refine o_mov rfl rfl ?_
                        refine o_nil ?_
                        refine sBlock_normal ?_
                        exact sMid_normal () (subCons rfl (subEq rfl (by simp_all [fN]) (subEq rfl (by simp_all [fS]) (subEq rfl (by simp_all [fT]) (subEq rfl (by simp_all [fLeast]) (subEq rfl (by simp_all [fMost]) subNil)))))) (.refl _) trivial
                      · skip
                        refine s_seq ?_
                        refine s_ops ?_
                        refine o_bin rfl rfl rfl rfl ?_
                        refine o_mov rfl rfl ?_
                        refine o_nil ?_
                        refine sSeq_normal ?_
                        refine s_cond rfl (fun hc10 => ?_) (fun hc10 => ?_)
                        · skip
                          refine s_ops ?_
                          refine o_mov rfl rfl ?_
                          refine o_mov rfl rfl ?_
                          refine o_mov rfl rfl ?_
                          refine o_nil ?_
                          refine sBlock_normal ?_
                          exact sMid_normal () (subCons rfl (subEq rfl (by simp_all [fN]) (subEq rfl (by simp_all [fS]) (subEq rfl (by simp_all [fT]) (subEq rfl (by simp_all [fLeast]) (subEq rfl (by simp_all [fMost]) subNil)))))) (.refl _) trivial
                        · skip
                          refine s_skip ?_
                          refine sBlock_normal ?_
                          exact sMid_normal () (subCons rfl (subEq rfl (by simp_all [fN]) (subEq rfl (by simp_all [fS]) (subEq rfl (by simp_all [fT]) (subEq rfl (by simp_all [fLeast]) (subEq rfl (by simp_all [fMost]) subNil)))))) (.refl _) trivial
                  · skip
                    refine s_ops ?_
                    refine o_bin rfl rfl rfl rfl ?_
                    refine o_mov rfl rfl ?_
                    refine o_nil ?_
                    refine sSeq_normal ?_
                    refine s_cond rfl (fun hc8 => ?_) (fun hc8 => ?_)
                    · skip
                      refine s_draw [true, true, true, true, false] rfl ?_
                      refine o_fad rfl rfl ?_
                      refine o_ld1 rfl (by first | exact .head _ | exact .tail _ (.head _) | exact .tail _ (.tail _ (.head _)) | exact .tail _ (.tail _ (.tail _ (.head _))) | exact .tail _ (.tail _ (.tail _ (.tail _ (.head _))))) rfl rfl ?_
                      refine o_mov rfl rfl ?_
                      refine o_mov rfl rfl ?_
                      refine o_mov rfl rfl ?_
                      refine o_nil ?_
                      refine sBlock_normal ?_
                      exact sMid_normal () (subCons rfl (subEq rfl (by simp_all [fN]) (subEq rfl (by simp_all [fS]) (subEq rfl (by simp_all [fT]) (subEq rfl (by simp_all [fLeast]) (subEq rfl (by simp_all [fMost]) subNil)))))) (.refl _) trivial
                    · skip
                      refine s_seq ?_
                      refine s_ops ?_
                      refine o_bin rfl rfl rfl rfl ?_
                      refine o_mov rfl rfl ?_
                      refine o_nil ?_
                      refine sSeq_normal ?_
                      refine s_cond rfl (fun hc9 => ?_) (fun hc9 => ?_)
                      · skip
                        refine s_ops ?_
                        refine o_mov rfl rfl ?_
                        refine o_mov rfl rfl ?_
                        refine o_mov rfl rfl ?_
                        refine o_nil ?_
                        refine sBlock_normal ?_
                        exact sMid_normal () (subCons rfl (subEq rfl (by simp_all [fN]) (subEq rfl (by simp_all [fS]) (subEq rfl (by simp_all [fT]) (subEq rfl (by simp_all [fLeast]) (subEq rfl (by simp_all [fMost]) subNil)))))) (.refl _) trivial
                      · skip
                        refine s_seq ?_
                        refine s_ops ?_
                        refine o_bin rfl rfl rfl rfl ?_
                        refine o_mov rfl rfl ?_
                        refine o_nil ?_
                        refine sSeq_normal ?_
                        refine s_cond rfl (fun hc10 => ?_) (fun hc10 => ?_)
                        · skip
                          refine s_ops ?_
                          refine o_mov rfl rfl ?_
                          refine o_mov rfl rfl ?_
                          refine o_mov rfl rfl ?_
                          refine o_nil ?_
                          refine sBlock_normal ?_
                          exact sMid_normal () (subCons rfl (subEq rfl (by simp_all [fN]) (subEq rfl (by simp_all [fS]) (subEq rfl (by simp_all [fT]) (subEq rfl (by simp_all [fLeast]) (subEq rfl (by simp_all [fMost]) subNil)))))) (.refl _) trivial
                        · skip
                          refine s_skip ?_
                          refine sBlock_normal ?_
                          exact sMid_normal () (subCons rfl (subEq rfl (by simp_all [fN]) (subEq rfl (by simp_all [fS]) (subEq rfl (by simp_all [fT]) (subEq rfl (by simp_all [fLeast]) (subEq rfl (by simp_all [fMost]) subNil)))))) (.refl _) trivial
        · skip
          refine s_ops ?_
          refine o_bin rfl rfl rfl rfl ?_
          refine o_mov rfl rfl ?_
          refine o_nil ?_
          refine sSeq_normal ?_
          refine s_cond rfl (fun hc3 => ?_) (fun hc3 => ?_)
          · skip
            refine s_ops ?_
            refine o_mov rfl rfl ?_
            refine o_nil ?_
            refine sBlock_normal ?_
            exact sMid_normal () (subCons rfl (subEq rfl (by simp_all [fN]) (subEq rfl (by simp_all [fS]) (subEq rfl (by simp_all [fT]) (subEq rfl (by simp_all [fLeast]) (subEq rfl (by simp_all [fMost]) subNil)))))) (.refl _) trivial
          · skip
            refine s_seq ?_
            refine s_seq ?_
            refine s_ops ?_
            refine o_bin rfl rfl rfl rfl ?_
            refine o_mov rfl rfl ?_
            refine o_nil ?_
            refine sSeq_normal ?_
            refine s_cond rfl (fun hc4 => ?_) (fun hc4 => ?_)
            · skip
              refine s_skip ?_
              refine sSeq_normal ?_
              refine s_cond rfl (fun hc5 => ?_) (fun hc5 => ?_)
              · skip
                refine s_ops ?_
                refine o_mov rfl rfl ?_
                refine o_nil ?_
                refine sBlock_normal ?_
                exact sMid_normal () (subCons rfl (subEq rfl (by simp_all [fN]) (subEq rfl (by simp_all [fS]) (subEq rfl (by simp_all [fT]) (subEq rfl (by simp_all [fLeast]) (subEq rfl (by simp_all [fMost]) subNil)))))) (.refl _) trivial
              · skip
                refine s_seq ?_
                refine s_ops ?_
                refine o_bin rfl rfl rfl rfl ?_
                refine o_mov rfl rfl ?_
                refine o_nil ?_
                refine sSeq_normal ?_
                refine s_cond rfl (fun hc6 => ?_) (fun hc6 => ?_)
                · skip
                  refine s_ops ?_
                  refine o_mov rfl rfl ?_
                  refine o_mov rfl rfl ?_
                  refine o_nil ?_
                  refine sBlock_normal ?_
                  exact sMid_normal () (subCons rfl (subEq rfl (by simp_all [fN]) (subEq rfl (by simp_all [fS]) (subEq rfl (by simp_all [fT]) (subEq rfl (by simp_all [fLeast]) (subEq rfl (by simp_all [fMost]) subNil)))))) (.refl _) trivial
                · skip
                  refine s_seq ?_
                  refine s_seq ?_
                  refine s_ops ?_
                  refine o_bin rfl rfl rfl rfl ?_
                  refine o_mov rfl rfl ?_
                  refine o_nil ?_
                  refine sSeq_normal ?_
                  refine s_cond rfl (fun hc7 => ?_) (fun hc7 => ?_)
                  · skip
                    refine s_skip ?_
                    refine sSeq_normal ?_
                    refine s_cond rfl (fun hc8 => ?_) (fun hc8 => ?_)
                    · skip
                      refine s_draw [true, true, true, true, false] rfl ?_
                      refine o_fad rfl rfl ?_
                      refine o_ld1 rfl (by first | exact .head _ | exact .tail _ (.head _) | exact .tail _ (.tail _ (.head _)) | exact .tail _ (.tail _ (.tail _ (.head _))) | exact .tail _ (.tail _ (.tail _ (.tail _ (.head _))))) rfl rfl ?_
                      refine o_mov rfl rfl ?_
                      refine o_mov rfl rfl ?_
                      refine o_mov rfl rfl ?_
                      refine o_nil ?_
                      refine sBlock_normal ?_
                      exact sMid_normal () (subCons rfl (subEq rfl (by simp_all [fN]) (subEq rfl (by simp_all [fS]) (subEq rfl (by simp_all [fT]) (subEq rfl (by simp_all [fLeast]) (subEq rfl (by simp_all [fMost]) subNil)))))) (.refl _) trivial
                    · skip
                      refine s_seq ?_
                      refine s_ops ?_
                      refine o_bin rfl rfl rfl rfl ?_
                      refine o_mov rfl rfl ?_
                      refine o_nil ?_
                      refine sSeq_normal ?_
                      refine s_cond rfl (fun hc9 => ?_) (fun hc9 => ?_)
                      · skip
                        refine s_ops ?_
                        refine o_mov rfl rfl ?_
                        refine o_mov rfl rfl ?_
                        refine o_mov rfl rfl ?_
                        refine o_nil ?_
                        refine sBlock_normal ?_
                        exact sMid_normal () (subCons rfl (subEq rfl (by simp_all [fN]) (subEq rfl (by simp_all [fS]) (subEq rfl (by simp_all [fT]) (subEq rfl (by simp_all [fLeast]) (subEq rfl (by simp_all [fMost]) subNil)))))) (.refl _) trivial
                      · skip
                        refine s_seq ?_
                        refine s_ops ?_
                        refine o_bin rfl rfl rfl rfl ?_
                        refine o_mov rfl rfl ?_
                        refine o_nil ?_
                        refine sSeq_normal ?_
                        refine s_cond rfl (fun hc10 => ?_) (fun hc10 => ?_)
                        · skip
                          refine s_ops ?_
                          refine o_mov rfl rfl ?_
                          refine o_mov rfl rfl ?_
                          refine o_mov rfl rfl ?_
                          refine o_nil ?_
                          refine sBlock_normal ?_
                          exact sMid_normal () (subCons rfl (subEq rfl (by simp_all [fN]) (subEq rfl (by simp_all [fS]) (subEq rfl (by simp_all [fT]) (subEq rfl (by simp_all [fLeast]) (subEq rfl (by simp_all [fMost]) subNil)))))) (.refl _) trivial
                        · skip
                          refine s_skip ?_
                          refine sBlock_normal ?_
                          exact sMid_normal () (subCons rfl (subEq rfl (by simp_all [fN]) (subEq rfl (by simp_all [fS]) (subEq rfl (by simp_all [fT]) (subEq rfl (by simp_all [fLeast]) (subEq rfl (by simp_all [fMost]) subNil)))))) (.refl _) trivial
                  · skip
                    refine s_ops ?_
                    refine o_bin rfl rfl rfl rfl ?_
                    refine o_mov rfl rfl ?_
                    refine o_nil ?_
                    refine sSeq_normal ?_
                    refine s_cond rfl (fun hc8 => ?_) (fun hc8 => ?_)
                    · skip
                      refine s_draw [true, true, true, true, false] rfl ?_
                      refine o_fad rfl rfl ?_
                      refine o_ld1 rfl (by first | exact .head _ | exact .tail _ (.head _) | exact .tail _ (.tail _ (.head _)) | exact .tail _ (.tail _ (.tail _ (.head _))) | exact .tail _ (.tail _ (.tail _ (.tail _ (.head _))))) rfl rfl ?_
                      refine o_mov rfl rfl ?_
                      refine o_mov rfl rfl ?_
                      refine o_mov rfl rfl ?_
                      refine o_nil ?_
                      refine sBlock_normal ?_
                      exact sMid_normal () (subCons rfl (subEq rfl (by simp_all [fN]) (subEq rfl (by simp_all [fS]) (subEq rfl (by simp_all [fT]) (subEq rfl (by simp_all [fLeast]) (subEq rfl (by simp_all [fMost]) subNil)))))) (.refl _) trivial
                    · skip
                      refine s_seq ?_
                      refine s_ops ?_
                      refine o_bin rfl rfl rfl rfl ?_
                      refine o_mov rfl rfl ?_
                      refine o_nil ?_
                      refine sSeq_normal ?_
                      refine s_cond rfl (fun hc9 => ?_) (fun hc9 => ?_)
                      · skip
                        refine s_ops ?_
                        refine o_mov rfl rfl ?_
                        refine o_mov rfl rfl ?_
                        refine o_mov rfl rfl ?_
                        refine o_nil ?_
                        refine sBlock_normal ?_
                        exact sMid_normal () (subCons rfl (subEq rfl (by simp_all [fN]) (subEq rfl (by simp_all [fS]) (subEq rfl (by simp_all [fT]) (subEq rfl (by simp_all [fLeast]) (subEq rfl (by simp_all [fMost]) subNil)))))) (.refl _) trivial
                      · skip
                        refine s_seq ?_
                        refine s_ops ?_
                        refine o_bin rfl rfl rfl rfl ?_
                        refine o_mov rfl rfl ?_
                        refine o_nil ?_
                        refine sSeq_normal ?_
                        refine s_cond rfl (fun hc10 => ?_) (fun hc10 => ?_)
                        · skip
                          refine s_ops ?_
                          refine o_mov rfl rfl ?_
                          refine o_mov rfl rfl ?_
                          refine o_mov rfl rfl ?_
                          refine o_nil ?_
                          refine sBlock_normal ?_
                          exact sMid_normal () (subCons rfl (subEq rfl (by simp_all [fN]) (subEq rfl (by simp_all [fS]) (subEq rfl (by simp_all [fT]) (subEq rfl (by simp_all [fLeast]) (subEq rfl (by simp_all [fMost]) subNil)))))) (.refl _) trivial
                        · skip
                          refine s_skip ?_
                          refine sBlock_normal ?_
                          exact sMid_normal () (subCons rfl (subEq rfl (by simp_all [fN]) (subEq rfl (by simp_all [fS]) (subEq rfl (by simp_all [fT]) (subEq rfl (by simp_all [fLeast]) (subEq rfl (by simp_all [fMost]) subNil)))))) (.refl _) trivial
            · skip
              refine s_ops ?_
              refine o_bin rfl rfl rfl rfl ?_
              refine o_mov rfl rfl ?_
              refine o_nil ?_
              refine sSeq_normal ?_
              refine s_cond rfl (fun hc5 => ?_) (fun hc5 => ?_)
              · skip
                refine s_ops ?_
                refine o_mov rfl rfl ?_
                refine o_nil ?_
                refine sBlock_normal ?_
                exact sMid_normal () (subCons rfl (subEq rfl (by simp_all [fN]) (subEq rfl (by simp_all [fS]) (subEq rfl (by simp_all [fT]) (subEq rfl (by simp_all [fLeast]) (subEq rfl (by simp_all [fMost]) subNil)))))) (.refl _) trivial
              · skip
                refine s_seq ?_
                refine s_ops ?_
                refine o_bin rfl rfl rfl rfl ?_
                refine o_mov rfl rfl ?_
                refine o_nil ?_
                refine sSeq_normal ?_
                refine s_cond rfl (fun hc6 => ?_) (fun hc6 => ?_)
                · skip
                  refine s_ops ?_
                  refine o_mov rfl rfl ?_
                  refine o_mov rfl rfl ?_
                  refine o_nil ?_
                  refine sBlock_normal ?_
                  exact sMid_normal () (subCons rfl (subEq rfl (by simp_all [fN]) (subEq rfl (by simp_all [fS]) (subEq rfl (by simp_all [fT]) (subEq rfl (by simp_all [fLeast]) (subEq rfl (by simp_all [fMost]) subNil)))))) (.refl _) trivial
                · skip
                  refine s_seq ?_
                  refine s_seq ?_
                  refine s_ops ?_
                  refine o_bin rfl rfl rfl rfl ?_
                  refine o_mov rfl rfl ?_
                  refine o_nil ?_
                  refine sSeq_normal ?_
                  refine s_cond rfl (fun hc7 => ?_) (fun hc7 => ?_)
                  · skip
                    refine s_skip ?_
                    refine sSeq_normal ?_
                    refine s_cond rfl (fun hc8 => ?_) (fun hc8 => ?_)
                    · skip
                      refine s_draw [true, true, true, true, false] rfl ?_
                      refine o_fad rfl rfl ?_
                      refine o_ld1 rfl (by first | exact .head _ | exact .tail _ (.head _) | exact .tail _ (.tail _ (.head _)) | exact .tail _ (.tail _ (.tail _ (.head _))) | exact .tail _ (.tail _ (.tail _ (.tail _ (.head _))))) rfl rfl ?_
                      refine o_mov rfl rfl ?_
                      refine o_mov rfl rfl ?_
                      refine o_mov rfl rfl ?_
                      refine o_nil ?_
                      refine sBlock_normal ?_
                      exact sMid_normal () (subCons rfl (subEq rfl (by simp_all [fN]) (subEq rfl (by simp_all [fS]) (subEq rfl (by simp_all [fT]) (subEq rfl (by simp_all [fLeast]) (subEq rfl (by simp_all [fMost]) subNil)))))) (.refl _) trivial
                    · skip
                      refine s_seq ?_
                      refine s_ops ?_
                      refine o_bin rfl rfl rfl rfl ?_
                      refine o_mov rfl rfl ?_
                      refine o_nil ?_
                      refine sSeq_normal ?_
                      refine s_cond rfl (fun hc9 => ?_) (fun hc9 => ?_)
                      · skip
                        refine s_ops ?_
                        refine o_mov rfl rfl ?_
                        refine o_mov rfl rfl ?_
                        refine o_mov rfl rfl ?_
                        refine o_nil ?_
                        refine sBlock_normal ?_
                        exact sMid_normal () (subCons rfl (subEq rfl (by simp_all [fN]) (subEq rfl (by simp_all [fS]) (subEq rfl (by simp_all [fT]) (subEq rfl (by simp_all [fLeast]) (subEq rfl (by simp_all [fMost]) subNil)))))) (.refl _) trivial
                      · skip
                        refine s_seq ?_
                        refine s_ops ?_
                        refine o_bin rfl rfl rfl rfl ?_
                        refine o_mov rfl rfl ?_
                        refine o_nil ?_
                        refine sSeq_normal ?_
                        refine s_cond rfl (fun hc10 => ?_) (fun hc10 => ?_)
                        · skip
                          refine s_ops ?_
                          refine o_mov rfl rfl ?_
                          refine o_mov rfl rfl ?_
                          refine o_mov rfl rfl ?_
                          refine o_nil ?_
                          refine sBlock_normal ?_
                          exact sMid_normal () (subCons rfl (subEq rfl (by simp_all [fN]) (subEq rfl (by simp_all [fS]) (subEq rfl (by simp_all [fT]) (subEq rfl (by simp_all [fLeast]) (subEq rfl (by simp_all [fMost]) subNil)))))) (.refl _) trivial
                        · skip
                          refine s_skip ?_
                          refine sBlock_normal ?_
                          exact sMid_normal () (subCons rfl (subEq rfl (by simp_all [fN]) (subEq rfl (by simp_all [fS]) (subEq rfl (by simp_all [fT]) (subEq rfl (by simp_all [fLeast]) (subEq rfl (by simp_all [fMost]) subNil)))))) (.refl _) trivial
                  · skip
                    refine s_ops ?_
                    refine o_bin rfl rfl rfl rfl ?_
                    refine o_mov rfl rfl ?_
                    refine o_nil ?_
                    refine sSeq_normal ?_
                    refine s_cond rfl (fun hc8 => ?_) (fun hc8 => ?_)
                    · skip
                      refine s_draw [true, true, true, true, false] rfl ?_
                      refine o_fad rfl rfl ?_
                      refine o_ld1 rfl (by first | exact .head _ | exact .tail _ (.head _) | exact .tail _ (.tail _ (.head _)) | exact .tail _ (.tail _ (.tail _ (.head _))) | exact .tail _ (.tail _ (.tail _ (.tail _ (.head _))))) rfl rfl ?_
                      refine o_mov rfl rfl ?_
                      refine o_mov rfl rfl ?_
                      refine o_mov rfl rfl ?_
                      refine o_nil ?_
                      refine sBlock_normal ?_
                      exact sMid_normal () (subCons rfl (subEq rfl (by simp_all [fN]) (subEq rfl (by simp_all [fS]) (subEq rfl (by simp_all [fT]) (subEq rfl (by simp_all [fLeast]) (subEq rfl (by simp_all [fMost]) subNil)))))) (.refl _) trivial
                    · skip
                      refine s_seq ?_
                      refine s_ops ?_
                      refine o_bin rfl rfl rfl rfl ?_
                      refine o_mov rfl rfl ?_
                      refine o_nil ?_
                      refine sSeq_normal ?_
                      refine s_cond rfl (fun hc9 => ?_) (fun hc9 => ?_)
                      · skip
                        refine s_ops ?_
                        refine o_mov rfl rfl ?_
                        refine o_mov rfl rfl ?_
                        refine o_mov rfl rfl ?_
                        refine o_nil ?_
                        refine sBlock_normal ?_
                        exact sMid_normal () (subCons rfl (subEq rfl (by simp_all [fN]) (subEq rfl (by simp_all [fS]) (subEq rfl (by simp_all [fT]) (subEq rfl (by simp_all [fLeast]) (subEq rfl (by simp_all [fMost]) subNil)))))) (.refl _) trivial
                      · skip
                        refine s_seq ?_
                        refine s_ops ?_
                        refine o_bin rfl rfl rfl rfl ?_
                        refine o_mov rfl rfl ?_
                        refine o_nil ?_
                        refine sSeq_normal ?_
                        refine s_cond rfl (fun hc10 => ?_) (fun hc10 => ?_)
                        · skip
                          refine s_ops ?_
                          refine o_mov rfl rfl ?_
                          refine o_mov rfl rfl ?_
                          refine o_mov rfl rfl ?_
                          refine o_nil ?_
                          refine sBlock_normal ?_
                          exact sMid_normal () (subCons rfl (subEq rfl (by simp_all [fN]) (subEq rfl (by simp_all [fS]) (subEq rfl (by simp_all [fT]) (subEq rfl (by simp_all [fLeast]) (subEq rfl (by simp_all [fMost]) subNil)))))) (.refl _) trivial
                        · skip
                          refine s_skip ?_
                          refine sBlock_normal ?_
                          exact sMid_normal () (subCons rfl (subEq rfl (by simp_all [fN]) (subEq rfl (by simp_all [fS]) (subEq rfl (by simp_all [fT]) (subEq rfl (by simp_all [fLeast]) (subEq rfl (by simp_all [fMost]) subNil)))))) (.refl _) trivial
  · rintro _ _
    refine s_seq ?_
    refine s_seq ?_
    refine s_ops ?_
    refine o_mov rfl rfl ?_
    refine o_un rfl rfl rfl ?_
    refine o_mov rfl rfl ?_
    refine g_fad (by first | exact wanted_b rfl | exact wanted_g rfl) (by first | exact evG rfl | exact evG2 rfl | exact evG3 rfl | exact fun _ => rfl) rfl ?_
    refine g_ld1 (by first | exact wanted_b rfl | exact wanted_g rfl) (by first | exact evG rfl | exact evG2 rfl | exact evG3 rfl | exact fun _ => rfl) (by first | exact .head _ | exact .tail _ (.head _) | exact .tail _ (.tail _ (.head _)) | exact .tail _ (.tail _ (.tail _ (.head _))) | exact .tail _ (.tail _ (.tail _ (.tail _ (.head _))))) rfl rfl ?_
    refine g_bin (by first | exact wanted_b rfl | exact wanted_g rfl) (by first | exact evG rfl | exact evG2 rfl | exact evG3 rfl | exact fun _ => rfl) (by first | exact evG rfl | exact evG2 rfl | exact evG3 rfl | exact fun _ => rfl) (fun _ => rfl) rfl ?_
    refine o_pickB rfl (by first | exact fun h => evG rfl (by rw [h]; rfl) | exact fun _ => rfl) (by first | exact fun h => evG rfl (by rw [h]; rfl) | exact fun _ => rfl) rfl ?_
    refine o_mov rfl rfl ?_
    refine g_mov (by first | exact wanted_b rfl | exact wanted_g rfl) (by first | exact evG rfl | exact evG2 rfl | exact evG3 rfl | exact fun _ => rfl) rfl ?_
    refine g_not (by first | exact wanted_b rfl | exact wanted_g rfl) (by first | exact evG rfl | exact evG2 rfl | exact evG3 rfl | exact fun _ => rfl) rfl ?_
    refine g_mov (by first | exact wanted_b rfl | exact wanted_g rfl) (by first | exact evG rfl | exact evG2 rfl | exact evG3 rfl | exact fun _ => rfl) rfl ?_
    refine g_fad (by first | exact wanted_b rfl | exact wanted_g rfl) (by first | exact evG rfl | exact evG2 rfl | exact evG3 rfl | exact fun _ => rfl) rfl ?_
    refine g_ld1 (by first | exact wanted_b rfl | exact wanted_g rfl) (by first | exact evG rfl | exact evG2 rfl | exact evG3 rfl | exact fun _ => rfl) (by first | exact .head _ | exact .tail _ (.head _) | exact .tail _ (.tail _ (.head _)) | exact .tail _ (.tail _ (.tail _ (.head _))) | exact .tail _ (.tail _ (.tail _ (.tail _ (.head _))))) rfl rfl ?_
    refine g_bin (by first | exact wanted_b rfl | exact wanted_g rfl) (by first | exact evG rfl | exact evG2 rfl | exact evG3 rfl | exact fun _ => rfl) (by first | exact evG rfl | exact evG2 rfl | exact evG3 rfl | exact fun _ => rfl) (fun _ => rfl) rfl ?_
    refine g_pick (by first | exact wanted_b rfl | exact wanted_g rfl) (by first | exact evG rfl | exact evG2 rfl | exact evG3 rfl | exact fun _ => rfl) (by first | exact fun hw h => evG rfl (by rw [hw, h]; rfl) | exact fun _ _ => rfl | exact fun hw _ => evG rfl hw) (by first | exact fun hw h => evG rfl (by rw [hw, h]; rfl) | exact fun _ _ => rfl | exact fun hw _ => evG rfl hw) rfl ?_
    refine o_pickB rfl (by first | exact fun h => evG rfl (by rw [h]; rfl) | exact fun _ => rfl) (by first | exact fun h => evG rfl (by rw [h]; rfl) | exact fun _ => rfl) rfl ?_
    refine o_mov rfl rfl ?_
    refine g_mov (by first | exact wanted_b rfl | exact wanted_g rfl) (by first | exact evG rfl | exact evG2 rfl | exact evG3 rfl | exact fun _ => rfl) rfl ?_
    refine g_not (by first | exact wanted_b rfl | exact wanted_g rfl) (by first | exact evG rfl | exact evG2 rfl | exact evG3 rfl | exact fun _ => rfl) rfl ?_
    refine g_mov (by first | exact wanted_b rfl | exact wanted_g rfl) (by first | exact evG rfl | exact evG2 rfl | exact evG3 rfl | exact fun _ => rfl) rfl ?_
    refine g_fad (by first | exact wanted_b rfl | exact wanted_g rfl) (by first | exact evG rfl | exact evG2 rfl | exact evG3 rfl | exact fun _ => rfl) rfl ?_
    refine g_ld1 (by first | exact wanted_b rfl | exact wanted_g rfl) (by first | exact evG rfl | exact evG2 rfl | exact evG3 rfl | exact fun _ => rfl) (by first | exact .head _ | exact .tail _ (.head _) | exact .tail _ (.tail _ (.head _)) | exact .tail _ (.tail _ (.tail _ (.head _))) | exact .tail _ (.tail _ (.tail _ (.tail _ (.head _))))) rfl rfl ?_
    refine g_bin (by first | exact wanted_b rfl | exact wanted_g rfl) (by first | exact evG rfl | exact evG2 rfl | exact evG3 rfl | exact fun _ => rfl) (by first | exact evG rfl | exact evG2 rfl | exact evG3 rfl | exact fun _ => rfl) (fun _ => rfl) rfl ?_
    refine g_pick (by first | exact wanted_b rfl | exact wanted_g rfl) (by first | exact evG rfl | exact evG2 rfl | exact evG3 rfl | exact fun _ => rfl) (by first | exact fun hw h => evG rfl (by rw [hw, h]; rfl) | exact fun _ _ => rfl | exact fun hw _ => evG rfl hw) (by first | exact fun hw h => evG rfl (by rw [hw, h]; rfl) | exact fun _ _ => rfl | exact fun hw _ => evG rfl hw) rfl ?_
    refine o_pickB rfl (by first | exact fun h => evG rfl (by rw [h]; rfl) | exact fun _ => rfl) (by first | exact fun h => evG rfl (by rw [h]; rfl) | exact fun _ => rfl) rfl ?_
    refine o_mov rfl rfl ?_
    refine g_fad (by first | exact wanted_b rfl | exact wanted_g rfl) (by first | exact evG rfl | exact evG2 rfl | exact evG3 rfl | exact fun _ => rfl) rfl ?_
    refine g_ld1 (by first | exact wanted_b rfl | exact wanted_g rfl) (by first | exact evG rfl | exact evG2 rfl | exact evG3 rfl | exact fun _ => rfl) (by first | exact .head _ | exact .tail _ (.head _) | exact .tail _ (.tail _ (.head _)) | exact .tail _ (.tail _ (.tail _ (.head _))) | exact .tail _ (.tail _ (.tail _ (.tail _ (.head _))))) rfl rfl ?_
    refine g_mov (by first | exact wanted_b rfl | exact wanted_g rfl) (by first | exact evG rfl | exact evG2 rfl | exact evG3 rfl | exact fun _ => rfl) rfl ?_
    refine g_bin (by first | exact wanted_b rfl | exact wanted_g rfl) (by first | exact evG rfl | exact evG2 rfl | exact evG3 rfl | exact fun _ => rfl) (by first | exact evG rfl | exact evG2 rfl | exact evG3 rfl | exact fun _ => rfl) (fun _ => rfl) rfl ?_
    refine o_pickB rfl (by first | exact fun h => evG rfl (by rw [h]; rfl) | exact fun _ => rfl) (by first | exact fun h => evG rfl (by rw [h]; rfl) | exact fun _ => rfl) rfl ?_
    refine o_mov rfl rfl ?_
    refine g_fad (by first | exact wanted_b rfl | exact wanted_g rfl) (by first | exact evG rfl | exact evG2 rfl | exact evG3 rfl | exact fun _ => rfl) rfl ?_
    refine g_ld1 (by first | exact wanted_b rfl | exact wanted_g rfl) (by first | exact evG rfl | exact evG2 rfl | exact evG3 rfl | exact fun _ => rfl) (by first | exact .head _ | exact .tail _ (.head _) | exact .tail _ (.tail _ (.head _)) | exact .tail _ (.tail _ (.tail _ (.head _))) | exact .tail _ (.tail _ (.tail _ (.tail _ (.head _))))) rfl rfl ?_
    refine g_mov (by first | exact wanted_b rfl | exact wanted_g rfl) (by first | exact evG rfl | exact evG2 rfl | exact evG3 rfl | exact fun _ => rfl) rfl ?_
    refine g_bin (by first | exact wanted_b rfl | exact wanted_g rfl) (by first | exact evG rfl | exact evG2 rfl | exact evG3 rfl | exact fun _ => rfl) (by first | exact evG rfl | exact evG2 rfl | exact evG3 rfl | exact fun _ => rfl) (fun _ => rfl) rfl ?_
    refine o_pickB rfl (by first | exact fun h => evG rfl (by rw [h]; rfl) | exact fun _ => rfl) (by first | exact fun h => evG rfl (by rw [h]; rfl) | exact fun _ => rfl) rfl ?_
    refine o_nil ?_
    refine sSeq_normal ?_
    refine s_cond rfl (fun hc11 => ?_) (fun hc11 => ?_)
    · skip
      refine s_seq ?_
      refine s_ops ?_
      refine o_mov rfl rfl ?_
      refine o_nil ?_
      refine sSeq_normal ?_
      refine s_ret ?_
      refine sSeq_ret ?_
      refine sRet_ret [_] ⟨rfl, trivial⟩ ?_
      show _ = _
      simp_all [tupled, fieldsBad]
    · skip
      refine s_skip ?_
      refine sSeq_normal ?_
      refine s_seq ?_
      refine s_ops ?_
      refine o_mov rfl rfl ?_
      refine o_nil ?_
      refine sSeq_normal ?_
      refine s_ret ?_
      refine sRet_ret [_] ⟨rfl, trivial⟩ ?_
      show _ = _
      simp_all [tupled, fieldsBad]


def isValue (k : Int) : Bool := (decide (k ≥ 1) && decide (k ≤ 6)) || k == 8
include hE in
theorem value_spec (k : Int) (H : Hp) : Sc E 48 [.int .i64 k] H [] fun v _ => v = .bool (isValue k) := by
  refine sc_body hE.h48 rfl ?_
  show Ss E _ _ _ c48.body _ _ _
  unfold c48
  refine s_seq ?_
  refine s_ops ?_
  refine o_mov rfl rfl ?_
  refine o_nil ?_
  refine sSeq_normal ?_
  refine s_seq ?_
  refine s_ops ?_
  refine o_mov rfl rfl ?_
  refine o_bin rfl rfl rfl rfl ?_
  refine o_mov rfl rfl ?_
  refine g_mov (by first | exact wanted_b rfl | exact wanted_g rfl) (by first | exact evG rfl | exact evG2 rfl | exact evG3 rfl | exact fun _ => rfl) rfl ?_
  refine g_bin (by first | exact wanted_b rfl | exact wanted_g rfl) (by first | exact evG rfl | exact evG2 rfl | exact evG3 rfl | exact fun _ => rfl) (by first | exact evG rfl | exact evG2 rfl | exact evG3 rfl | exact fun _ => rfl) (fun _ => rfl) rfl ?_
  refine o_pickB rfl (by first | exact fun h => evG rfl (by rw [h]; rfl) | exact fun _ => rfl) (by first | exact fun h => evG rfl (by rw [h]; rfl) | exact fun _ => rfl) rfl ?_
  refine o_mov rfl rfl ?_
  refine g_mov (by first | exact wanted_b rfl | exact wanted_g rfl) (by first | exact evG rfl | exact evG2 rfl | exact evG3 rfl | exact fun _ => rfl) rfl ?_
  refine g_bin (by first | exact wanted_b rfl | exact wanted_g rfl) (by first | exact evG rfl | exact evG2 rfl | exact evG3 rfl | exact fun _ => rfl) (by first | exact evG rfl | exact evG2 rfl | exact evG3 rfl | exact fun _ => rfl) (fun _ => rfl) rfl ?_
  refine o_pickB rfl (by first | exact fun h => evG rfl (by rw [h]; rfl) | exact fun _ => rfl) (by first | exact fun h => evG rfl (by rw [h]; rfl) | exact fun _ => rfl) rfl ?_
  refine o_mov rfl rfl ?_
  refine o_nil ?_
  refine sSeq_normal ?_
  refine s_ret ?_
  refine sRet_ret [_] ⟨rfl, trivial⟩ ?_
  show _ = _
  simp only [tupled, isValue]
  cases decide (k ≥ 1) <;> cases decide (k ≤ 6) <;> rfl

end Go.Proofs.YtfonnebpnobomaaDoor.W
namespace Go.Proofs.YtfonnebpnobomaaDoor.W
open Go Am code
set_option maxRecDepth 100000
set_option maxHeartbeats 4000000
set_option linter.unusedSimpArgs false
set_option linter.unusedVariables false
variable {E : Env} (hE : Has E)

def nLow (x : Node) : Int := if x.kind = 1 then x.n else if x.kind = 11 then 1 else 0
def nHigh (x : Node) : Int := if x.kind = 1 then x.n else if x.kind = 2 then 1 else if x.kind = 7 ∨ x.kind = 12 then 1000000 else if x.kind = 8 ∨ x.kind = 11 then 8 else 0
def rangeBad (x : Node) : Bool := decide (x.n < nLow x) || decide (x.n > nHigh x) || decide (x.tag < 0) || decide (x.tag > 99) || decide (x.ref < 0)
/-- what is asked of data.Symbol: it comes to a truth value for the symbols that stand in the node -/
def SymOK (E : Env) (symB : ByteArray → Bool) (x : Node) (H : Hp) : Prop := (x.kind = 3 ∨ x.kind = 6) → ∀ H1 M, St H [] H1 M → Sc E 56 [.string x.s] H1 [] fun v _ => v = .bool (symB x.s)
theorem SymOK.mono {E : Env} {symB : ByteArray → Bool} {x : Node} {H H1 : Hp} {M : Ms} (h : SymOK E symB x H) (h1 : St H [] H1 M) : SymOK E symB x H1 := fun hk H2 M2 h2 => h hk H2 _ (h1.call (Mr := []) h2 (fun _ h => (by cases h)) (fun _ h => (by cases h)) .nil)
def SymsOK (E : Env) (symB : ByteArray → Bool) (t : List Node) (H : Hp) : Prop := ∀ x ∈ t, SymOK E symB x H
theorem SymsOK.mono {E : Env} {symB : ByteArray → Bool} {t : List Node} {H H1 : Hp} {M : Ms} (h : SymsOK E symB t H) (h1 : St H [] H1 M) : SymsOK E symB t H1 := fun x hx => (h x hx).mono h1
variable (symB : ByteArray → Bool)
def numbersErr (x : Node) (named : Bool) : Int :=
  if rangeBad x then 7 else if x.kind = 3 ∨ x.kind = 6 then (if symB x.s then 0 else 6)
  else if x.kind = 8 ∨ x.kind = 11 then (if x.kids = (lead x named).1 + (lead x named).2 + 1 then 0 else 6) else 0
theorem numWrap (x : Node) (named : Bool) (hk : x.kind = 8 ∨ x.kind = 11) (hr : rangeBad x = false) : IntKind.wrap .i64 (IntKind.wrap .i64 ((lead x named).1 + (lead x named).2) + 1) = (lead x named).1 + (lead x named).2 + 1 := by
  have h0 : 0 ≤ x.n ∧ x.n ≤ 8 := by
    rcases hk with h | h <;> simp [rangeBad, nLow, nHigh, h] at hr <;> omega
  have h1 : 0 ≤ (lead x named).1 ∧ (lead x named).1 ≤ 8 := by
    unfold lead; dsimp only; split <;> omega
  have h2 : 0 ≤ (lead x named).2 ∧ (lead x named).2 ≤ 8 := by
    unfold lead; dsimp only; split <;> omega
  rw [wrap64 (z := (lead x named).1 + (lead x named).2) (by omega) (by omega), wrap64 (by omega) (by omega)]
include hE in
theorem numbers_spec (x : Node) (named : Bool) (H : Hp) (hsym : SymOK E symB x H) : Sc E 43 [.agg ⟨x.cells⟩, .bool named] H [] fun v _ => v = .int .i64 (numbersErr symB x named) := by
  refine sc_body hE.h43 rfl ?_
  show Ss E _ _ _ c43.body _ _ _
  unfold c43
  refine s_seq ?_
  refine s_ops ?_
  refine o_box rfl rfl rfl (fun b0 => ?_)
  refine o_mov rfl rfl ?_
  refine o_nil ?_
  refine sSeq_normal ?_
  refine s_seq ?_
  refine s_ops ?_
  refine o_mov rfl rfl ?_
  refine o_mov rfl rfl ?_
  refine o_nil ?_
  refine sSeq_normal ?_
  refine s_mid (α := Unit) (fun _ => [(2, .pointer (some ⟨b0, 0, none⟩)), (5, .int .i64 (nLow x)), (6, .int .i64 (nHigh x)), (1, .bool named)]) (fun _ => [(b0, .row x.cells true)]) (fun _ => True) ?_ ?_
  · skip
    refine s_seq ?_
    refine s_ops ?_
    refine o_fad rfl rfl ?_
    refine o_ld1 rfl (by first | exact .head _ | exact .tail _ (.head _) | exact .tail _ (.tail _ (.head _)) | exact .tail _ (.tail _ (.tail _ (.head _))) | exact .tail _ (.tail _ (.tail _ (.tail _ (.head _))))) rfl rfl ?_
    refine o_nil ?_
    refine sSeq_normal ?_
    refine s_block ?_
    refine s_seq ?_
    refine s_block ?_
    refine s_seq ?_
    refine s_block ?_
    refine s_seq ?_
    refine s_block ?_
    refine s_seq ?_
    refine s_block ?_
    refine s_seq ?_
    refine s_block ?_
    refine s_seq ?_
    refine s_seq ?_
    refine s_seq ?_
    refine s_ops ?_
    refine o_bin rfl rfl rfl rfl ?_
    refine o_mov rfl rfl ?_
    refine o_nil ?_
    refine sSeq_normal ?_
    refine s_cond rfl (fun hc0 => ?_) (fun hc0 => ?_)
    · skip
      refine s_exit ?_
      refine sSeq_exit ?_
      refine sSeq_exit ?_
      refine sBlock_exit ?_
      refine sSeq_normal ?_
      refine s_seq ?_
      refine s_draw [true, true, true, true, true, false] rfl ?_
      refine o_fad rfl rfl ?_
      refine o_ld1 rfl (by first | exact .head _ | exact .tail _ (.head _) | exact .tail _ (.tail _ (.head _)) | exact .tail _ (.tail _ (.tail _ (.head _))) | exact .tail _ (.tail _ (.tail _ (.tail _ (.head _))))) rfl rfl ?_
      refine o_fad rfl rfl ?_
      refine o_ld1 rfl (by first | exact .head _ | exact .tail _ (.head _) | exact .tail _ (.tail _ (.head _)) | exact .tail _ (.tail _ (.tail _ (.head _))) | exact .tail _ (.tail _ (.tail _ (.tail _ (.head _))))) rfl rfl ?_
      refine o_mov rfl rfl ?_
      refine o_mov rfl rfl ?_
      refine o_nil ?_
      refine sSeq_normal ?_
      refine s_exit ?_
      refine sBlock_out rfl ?_
      refine sSeq_exit ?_
      refine sBlock_out rfl ?_
      refine sSeq_exit ?_
      refine sBlock_out rfl ?_
      refine sSeq_exit ?_
      refine sBlock_out rfl ?_
      refine sSeq_exit ?_
      refine sBlock_exit ?_
      exact sMid_normal () (subCons rfl (subEq rfl (by simp_all [nLow]) (subEq rfl (by simp_all [nHigh]) (subCons rfl subNil)))) (.refl _) trivial
    · skip
      refine s_skip ?_
      refine sSeq_normal ?_
      refine s_seq ?_
      refine s_seq ?_
      refine s_ops ?_
      refine o_bin rfl rfl rfl rfl ?_
      refine o_mov rfl rfl ?_
      refine o_nil ?_
      refine sSeq_normal ?_
      refine s_cond rfl (fun hc1 => ?_) (fun hc1 => ?_)
      · skip
        refine s_exit ?_
        refine sSeq_exit ?_
        refine sSeq_exit ?_
        refine sBlock_out rfl ?_
        refine sSeq_exit ?_
        refine sBlock_exit ?_
        refine sSeq_normal ?_
        refine s_seq ?_
        refine s_ops ?_
        refine o_mov rfl rfl ?_
        refine o_nil ?_
        refine sSeq_normal ?_
        refine s_exit ?_
        refine sBlock_out rfl ?_
        refine sSeq_exit ?_
        refine sBlock_out rfl ?_
        refine sSeq_exit ?_
        refine sBlock_out rfl ?_
        refine sSeq_exit ?_
        refine sBlock_exit ?_
        exact sMid_normal () (subCons rfl (subEq rfl (by simp_all [nLow]) (subEq rfl (by simp_all [nHigh]) (subCons rfl subNil)))) (.refl _) trivial
      · skip
        refine s_skip ?_
        refine sSeq_normal ?_
        refine s_seq ?_
        refine s_seq ?_
        refine s_seq ?_
        refine s_ops ?_
        refine o_bin rfl rfl rfl rfl ?_
        refine o_mov rfl rfl ?_
        refine o_nil ?_
        refine sSeq_normal ?_
        refine s_cond rfl (fun hc2 => ?_) (fun hc2 => ?_)
        · skip
          refine s_skip ?_
          refine sSeq_normal ?_
          refine s_cond rfl (fun hc3 => ?_) (fun hc3 => ?_)
          · skip
            refine s_exit ?_
            refine sSeq_exit ?_
            refine sSeq_exit ?_
            refine sBlock_out rfl ?_
            refine sSeq_exit ?_
            refine sBlock_out rfl ?_
            refine sSeq_exit ?_
            refine sBlock_exit ?_
            refine sSeq_normal ?_
            refine s_seq ?_
            refine s_ops ?_
            refine o_mov rfl rfl ?_
            refine o_nil ?_
            refine sSeq_normal ?_
            refine s_exit ?_
            refine sBlock_out rfl ?_
            refine sSeq_exit ?_
            refine sBlock_out rfl ?_
            refine sSeq_exit ?_
            refine sBlock_exit ?_
            exact sMid_normal () (subCons rfl (subEq rfl (by simp_all [nLow]) (subEq rfl (by simp_all [nHigh]) (subCons rfl subNil)))) (.refl _) trivial
          · skip
            refine s_skip ?_
            refine sSeq_normal ?_
            refine s_seq ?_
            refine s_seq ?_
            refine s_ops ?_
            refine o_bin rfl rfl rfl rfl ?_
            refine o_mov rfl rfl ?_
            refine o_nil ?_
            refine sSeq_normal ?_
            refine s_cond rfl (fun hc4 => ?_) (fun hc4 => ?_)
            · skip
              refine s_exit ?_
              refine sSeq_exit ?_
              refine sSeq_exit ?_
              refine sBlock_out rfl ?_
              refine sSeq_exit ?_
              refine sBlock_out rfl ?_
              refine sSeq_exit ?_
              refine sBlock_out rfl ?_
              refine sSeq_exit ?_
              refine sBlock_exit ?_
              refine sSeq_normal ?_
              refine s_ops ?_
              refine o_mov rfl rfl ?_
              refine o_nil ?_
              refine sBlock_normal ?_
              refine sSeq_normal ?_
              refine s_seq ?_
              refine s_ops ?_
              refine o_mov rfl rfl ?_
              refine o_nil ?_
              refine sSeq_normal ?_
              refine s_exit ?_
              refine sBlock_exit ?_
              exact sMid_normal () (subCons rfl (subEq rfl (by simp_all [nLow]) (subEq rfl (by simp_all [nHigh]) (subCons rfl subNil)))) (.refl _) trivial
            · skip
              refine s_skip ?_
              refine sSeq_normal ?_
              refine s_seq ?_
              refine s_ops ?_
              refine o_bin rfl rfl rfl rfl ?_
              refine o_mov rfl rfl ?_
              refine o_nil ?_
              refine sSeq_normal ?_
              refine s_cond rfl (fun hc5 => ?_) (fun hc5 => ?_)
              · skip
                refine s_exit ?_
                refine sSeq_exit ?_
                refine sBlock_out rfl ?_
                refine sSeq_exit ?_
                refine sBlock_out rfl ?_
                refine sSeq_exit ?_
                refine sBlock_out rfl ?_
                refine sSeq_exit ?_
                refine sBlock_out rfl ?_
                refine sSeq_exit ?_
                refine sBlock_exit ?_
                refine sSeq_normal ?_
                refine s_seq ?_
                refine s_ops ?_
                refine o_mov rfl rfl ?_
                refine o_nil ?_
                refine sSeq_normal ?_
                refine s_exit ?_
                refine sBlock_exit ?_
                exact sMid_normal () (subCons rfl (subEq rfl (by simp_all [nLow]) (subEq rfl (by simp_all [nHigh]) (subCons rfl subNil)))) (.refl _) trivial
              · skip
                refine s_skip ?_
                refine sSeq_normal ?_
                refine s_exit ?_
                refine sBlock_out rfl ?_
                refine sSeq_exit ?_
                refine sBlock_out rfl ?_
                refine sSeq_exit ?_
                refine sBlock_out rfl ?_
                refine sSeq_exit ?_
                refine sBlock_out rfl ?_
                refine sSeq_exit ?_
                refine sBlock_out rfl ?_
                refine sSeq_exit ?_
                refine sBlock_exit ?_
                exact sMid_normal () (subCons rfl (subEq rfl (by simp_all [nLow]) (subEq rfl (by simp_all [nHigh]) (subCons rfl subNil)))) (.refl _) trivial
        · skip
          refine s_ops ?_
          refine o_bin rfl rfl rfl rfl ?_
          refine o_mov rfl rfl ?_
          refine o_nil ?_
          refine sSeq_normal ?_
          refine s_cond rfl (fun hc3 => ?_) (fun hc3 => ?_)
          · skip
            refine s_exit ?_
            refine sSeq_exit ?_
            refine sSeq_exit ?_
            refine sBlock_out rfl ?_
            refine sSeq_exit ?_
            refine sBlock_out rfl ?_
            refine sSeq_exit ?_
            refine sBlock_exit ?_
            refine sSeq_normal ?_
            refine s_seq ?_
            refine s_ops ?_
            refine o_mov rfl rfl ?_
            refine o_nil ?_
            refine sSeq_normal ?_
            refine s_exit ?_
            refine sBlock_out rfl ?_
            refine sSeq_exit ?_
            refine sBlock_out rfl ?_
            refine sSeq_exit ?_
            refine sBlock_exit ?_
            exact sMid_normal () (subCons rfl (subEq rfl (by simp_all [nLow]) (subEq rfl (by simp_all [nHigh]) (subCons rfl subNil)))) (.refl _) trivial
          · skip
            refine s_skip ?_
            refine sSeq_normal ?_
            refine s_seq ?_
            refine s_seq ?_
            refine s_ops ?_
            refine o_bin rfl rfl rfl rfl ?_
            refine o_mov rfl rfl ?_
            refine o_nil ?_
            refine sSeq_normal ?_
            refine s_cond rfl (fun hc4 => ?_) (fun hc4 => ?_)
            · skip
              refine s_exit ?_
              refine sSeq_exit ?_
              refine sSeq_exit ?_
              refine sBlock_out rfl ?_
              refine sSeq_exit ?_
              refine sBlock_out rfl ?_
              refine sSeq_exit ?_
              refine sBlock_out rfl ?_
              refine sSeq_exit ?_
              refine sBlock_exit ?_
              refine sSeq_normal ?_
              refine s_ops ?_
              refine o_mov rfl rfl ?_
              refine o_nil ?_
              refine sBlock_normal ?_
              refine sSeq_normal ?_
              refine s_seq ?_
              refine s_ops ?_
              refine o_mov rfl rfl ?_
              refine o_nil ?_
              refine sSeq_normal ?_
              refine s_exit ?_
              refine sBlock_exit ?_
              exact sMid_normal () (subCons rfl (subEq rfl (by simp_all [nLow]) (subEq rfl (by simp_all [nHigh]) (subCons rfl subNil)))) (.refl _) trivial
            · skip
              refine s_skip ?_
              refine sSeq_normal ?_
              refine s_seq ?_
              refine s_ops ?_
              refine o_bin rfl rfl rfl rfl ?_
              refine o_mov rfl rfl ?_
              refine o_nil ?_
              refine sSeq_normal ?_
              refine s_cond rfl (fun hc5 => ?_) (fun hc5 => ?_)
              · skip
                refine s_exit ?_
                refine sSeq_exit ?_
                refine sBlock_out rfl ?_
                refine sSeq_exit ?_
                refine sBlock_out rfl ?_
                refine sSeq_exit ?_
                refine sBlock_out rfl ?_
                refine sSeq_exit ?_
                refine sBlock_out rfl ?_
                refine sSeq_exit ?_
                refine sBlock_exit ?_
                refine sSeq_normal ?_
                refine s_seq ?_
                refine s_ops ?_
                refine o_mov rfl rfl ?_
                refine o_nil ?_
                refine sSeq_normal ?_
                refine s_exit ?_
                refine sBlock_exit ?_
                exact sMid_normal () (subCons rfl (subEq rfl (by simp_all [nLow]) (subEq rfl (by simp_all [nHigh]) (subCons rfl subNil)))) (.refl _) trivial
              · skip
                refine s_skip ?_
                refine sSeq_normal ?_
                refine s_exit ?_
                refine sBlock_out rfl ?_
                refine sSeq_exit ?_
                refine sBlock_out rfl ?_
                refine sSeq_exit ?_
                refine sBlock_out rfl ?_
                refine sSeq_exit ?_
                refine sBlock_out rfl ?_
                refine sSeq_exit ?_
                refine sBlock_out rfl ?_
                refine sSeq_exit ?_
                refine sBlock_exit ?_
                exact sMid_normal () (subCons rfl (subEq rfl (by simp_all [nLow]) (subEq rfl (by simp_all [nHigh]) (subCons rfl subNil)))) (.refl _) trivial
  · rintro _ _
    refine s_seq ?_
    refine s_seq ?_
    refine s_ops ?_
    refine o_fad rfl rfl ?_
    refine o_ld1 rfl (by first | exact .head _ | exact .tail _ (.head _) | exact .tail _ (.tail _ (.head _)) | exact .tail _ (.tail _ (.tail _ (.head _))) | exact .tail _ (.tail _ (.tail _ (.tail _ (.head _))))) rfl rfl ?_
    refine o_mov rfl rfl ?_
    refine o_bin rfl rfl rfl rfl ?_
    refine o_mov rfl rfl ?_
    refine g_fad (by first | exact wanted_b rfl | exact wanted_g rfl) (by first | exact evG rfl | exact evG2 rfl | exact evG3 rfl | exact fun _ => rfl) rfl ?_
    refine g_ld1 (by first | exact wanted_b rfl | exact wanted_g rfl) (by first | exact evG rfl | exact evG2 rfl | exact evG3 rfl | exact fun _ => rfl) (by first | exact .head _ | exact .tail _ (.head _) | exact .tail _ (.tail _ (.head _)) | exact .tail _ (.tail _ (.tail _ (.head _))) | exact .tail _ (.tail _ (.tail _ (.tail _ (.head _))))) rfl rfl ?_
    refine g_mov (by first | exact wanted_b rfl | exact wanted_g rfl) (by first | exact evG rfl | exact evG2 rfl | exact evG3 rfl | exact fun _ => rfl) rfl ?_
    refine g_bin (by first | exact wanted_b rfl | exact wanted_g rfl) (by first | exact evG rfl | exact evG2 rfl | exact evG3 rfl | exact fun _ => rfl) (by first | exact evG rfl | exact evG2 rfl | exact evG3 rfl | exact fun _ => rfl) (fun _ => rfl) rfl ?_
    refine o_pickB rfl (by first | exact fun h => evG rfl (by rw [h]; rfl) | exact fun _ => rfl) (by first | exact fun h => evG rfl (by rw [h]; rfl) | exact fun _ => rfl) rfl ?_
    refine o_mov rfl rfl ?_
    refine g_fad (by first | exact wanted_b rfl | exact wanted_g rfl) (by first | exact evG rfl | exact evG2 rfl | exact evG3 rfl | exact fun _ => rfl) rfl ?_
    refine g_ld1 (by first | exact wanted_b rfl | exact wanted_g rfl) (by first | exact evG rfl | exact evG2 rfl | exact evG3 rfl | exact fun _ => rfl) (by first | exact .head _ | exact .tail _ (.head _) | exact .tail _ (.tail _ (.head _)) | exact .tail _ (.tail _ (.tail _ (.head _))) | exact .tail _ (.tail _ (.tail _ (.tail _ (.head _))))) rfl rfl ?_
    refine g_bin (by first | exact wanted_b rfl | exact wanted_g rfl) (by first | exact evG rfl | exact evG2 rfl | exact evG3 rfl | exact fun _ => rfl) (by first | exact evG rfl | exact evG2 rfl | exact evG3 rfl | exact fun _ => rfl) (fun _ => rfl) rfl ?_
    refine o_pickB rfl (by first | exact fun h => evG rfl (by rw [h]; rfl) | exact fun _ => rfl) (by first | exact fun h => evG rfl (by rw [h]; rfl) | exact fun _ => rfl) rfl ?_
    refine o_mov rfl rfl ?_
    refine g_fad (by first | exact wanted_b rfl | exact wanted_g rfl) (by first | exact evG rfl | exact evG2 rfl | exact evG3 rfl | exact fun _ => rfl) rfl ?_
    refine g_ld1 (by first | exact wanted_b rfl | exact wanted_g rfl) (by first | exact evG rfl | exact evG2 rfl | exact evG3 rfl | exact fun _ => rfl) (by first | exact .head _ | exact .tail _ (.head _) | exact .tail _ (.tail _ (.head _)) | exact .tail _ (.tail _ (.tail _ (.head _))) | exact .tail _ (.tail _ (.tail _ (.tail _ (.head _))))) rfl rfl ?_
    refine g_bin (by first | exact wanted_b rfl | exact wanted_g rfl) (by first | exact evG rfl | exact evG2 rfl | exact evG3 rfl | exact fun _ => rfl) (by first | exact evG rfl | exact evG2 rfl | exact evG3 rfl | exact fun _ => rfl) (fun _ => rfl) rfl ?_
    refine o_pickB rfl (by first | exact fun h => evG rfl (by rw [h]; rfl) | exact fun _ => rfl) (by first | exact fun h => evG rfl (by rw [h]; rfl) | exact fun _ => rfl) rfl ?_
    refine o_mov rfl rfl ?_
    refine g_fad (by first | exact wanted_b rfl | exact wanted_g rfl) (by first | exact evG rfl | exact evG2 rfl | exact evG3 rfl | exact fun _ => rfl) rfl ?_
    refine g_ld1 (by first | exact wanted_b rfl | exact wanted_g rfl) (by first | exact evG rfl | exact evG2 rfl | exact evG3 rfl | exact fun _ => rfl) (by first | exact .head _ | exact .tail _ (.head _) | exact .tail _ (.tail _ (.head _)) | exact .tail _ (.tail _ (.tail _ (.head _))) | exact .tail _ (.tail _ (.tail _ (.tail _ (.head _))))) rfl rfl ?_
    refine g_bin (by first | exact wanted_b rfl | exact wanted_g rfl) (by first | exact evG rfl | exact evG2 rfl | exact evG3 rfl | exact fun _ => rfl) (by first | exact evG rfl | exact evG2 rfl | exact evG3 rfl | exact fun _ => rfl) (fun _ => rfl) rfl ?_
    refine o_pickB rfl (by first | exact fun h => evG rfl (by rw [h]; rfl) | exact fun _ => rfl) (by first | exact fun h => evG rfl (by rw [h]; rfl) | exact fun _ => rfl) rfl ?_
    refine o_nil ?_
    refine sSeq_normal ?_
    refine s_cond rfl (fun hc6 => ?_) (fun hc6 => ?_)
    · have hr : rangeBad x = true := by simp_all [rangeBad]
      clear hc6
      refine s_seq ?_
      refine s_ops ?_
      refine o_mov rfl rfl ?_
      refine o_nil ?_
      refine sSeq_normal ?_
      refine s_ret ?_
      refine sSeq_ret ?_
      refine sRet_ret [_] ⟨rfl, trivial⟩ ?_
      show _ = _
      simp_all [tupled, numbersErr]
    · have hr : rangeBad x = false := by simp_all [rangeBad]
      clear hc6
      refine s_skip ?_
      refine sSeq_normal ?_
      refine s_seq ?_
      refine s_ops ?_
      refine o_ld (own := true) (c := x.cells) rfl (.head _) (by simp [Node.cells]) rfl ?_
      simp only [Node.cells, List.drop, List.take]
      refine o_mov rfl rfl ?_
      refine o_call0 rfl (ha2 rfl rfl) rfl (fun H _ => lead_spec hE x named H) ?_
      refine o_mov rfl rfl ?_
      refine o_ext rfl rfl rfl ?_
      refine o_ext rfl rfl rfl ?_
      refine o_mov rfl rfl ?_
      refine o_mov rfl rfl ?_
      refine o_nil ?_
      refine sSeq_normal ?_
      refine s_seq ?_
      refine s_seq ?_
      refine s_ops ?_
      refine o_fad rfl rfl ?_
      refine o_ld1 rfl (by first | exact .head _ | exact .tail _ (.head _) | exact .tail _ (.tail _ (.head _)) | exact .tail _ (.tail _ (.tail _ (.head _))) | exact .tail _ (.tail _ (.tail _ (.tail _ (.head _))))) rfl rfl ?_
      refine o_nil ?_
      refine sSeq_normal ?_
      refine s_block ?_
      refine s_seq ?_
      refine s_seq ?_
      refine s_ops ?_
      refine o_bin rfl rfl rfl rfl ?_
      refine o_mov rfl rfl ?_
      refine o_nil ?_
      refine sSeq_normal ?_
      refine s_cond rfl (fun hc7 => ?_) (fun hc7 => ?_)
      · skip
        refine s_skip ?_
        refine sSeq_normal ?_
        refine s_cond rfl (fun hc8 => ?_) (fun hc8 => ?_)
        · skip
          refine s_seq ?_
          refine s_ops ?_
          refine o_fad rfl rfl ?_
          refine o_ld1 rfl (by first | exact .head _ | exact .tail _ (.head _) | exact .tail _ (.tail _ (.head _)) | exact .tail _ (.tail _ (.tail _ (.head _))) | exact .tail _ (.tail _ (.tail _ (.tail _ (.head _))))) rfl rfl ?_
          refine o_call0 rfl (ha1 rfl) rfl (fun H1 hH1 => hsym (by simp_all) H1 _ hH1) ?_
          refine o_un rfl rfl rfl ?_
          refine o_nil ?_
          refine sSeq_normal ?_
          refine s_cond rfl (fun hc9 => ?_) (fun hc9 => ?_)
          · skip
            refine s_seq ?_
            refine s_ops ?_
            refine o_mov rfl rfl ?_
            refine o_nil ?_
            refine sSeq_normal ?_
            refine s_ret ?_
            refine sBlock_ret ?_
            refine sSeq_ret ?_
            refine sRet_ret [_] ⟨rfl, trivial⟩ ?_
            show _ = _
            simp_all [tupled, numbersErr]
          · skip
            refine s_skip ?_
            refine sBlock_normal ?_
            refine sSeq_normal ?_
            refine s_seq ?_
            refine s_ops ?_
            refine o_mov rfl rfl ?_
            refine o_nil ?_
            refine sSeq_normal ?_
            refine s_ret ?_
            refine sRet_ret [_] ⟨rfl, trivial⟩ ?_
            show _ = _
            simp_all [tupled, numbersErr]
        · skip
          refine s_seq ?_
          refine s_seq ?_
          refine s_ops ?_
          refine o_bin rfl rfl rfl rfl ?_
          refine o_mov rfl rfl ?_
          refine o_nil ?_
          refine sSeq_normal ?_
          refine s_cond rfl (fun hc10 => ?_) (fun hc10 => ?_)
          · skip
            refine s_skip ?_
            refine sSeq_normal ?_
            refine s_cond rfl (fun hc11 => ?_) (fun hc11 => ?_)
            · have hw := numWrap x named (by simp_all) hr
              refine s_seq ?_
              refine s_ops ?_
              refine o_fad rfl rfl ?_
              refine o_ld1 rfl (by first | exact .head _ | exact .tail _ (.head _) | exact .tail _ (.tail _ (.head _)) | exact .tail _ (.tail _ (.tail _ (.head _))) | exact .tail _ (.tail _ (.tail _ (.tail _ (.head _))))) rfl rfl ?_
              refine o_mov rfl rfl ?_
              refine o_mov rfl rfl ?_
              refine o_bin rfl rfl rfl rfl ?_
              refine o_bin rfl rfl rfl rfl ?_
              refine o_bin rfl rfl rfl rfl ?_
              refine o_nil ?_
              refine sSeq_normal ?_
              refine s_cond rfl (fun hc12 => ?_) (fun hc12 => ?_)
              · skip
                refine s_seq ?_
                refine s_ops ?_
                refine o_mov rfl rfl ?_
                refine o_nil ?_
                refine sSeq_normal ?_
                refine s_ret ?_
                refine sBlock_ret ?_
                refine sSeq_ret ?_
                refine sRet_ret [_] ⟨rfl, trivial⟩ ?_
                show _ = _
                simp_all [tupled, numbersErr]
              · skip
                refine s_skip ?_
                refine sBlock_normal ?_
                refine sSeq_normal ?_
                refine s_seq ?_
                refine s_ops ?_
                refine o_mov rfl rfl ?_
                refine o_nil ?_
                refine sSeq_normal ?_
                refine s_ret ?_
                refine sRet_ret [_] ⟨rfl, trivial⟩ ?_
                show _ = _
                simp_all [tupled, numbersErr]
            · skip
              refine s_skip ?_
              refine sBlock_normal ?_
              refine sSeq_normal ?_
              refine s_seq ?_
              refine s_ops ?_
              refine o_mov rfl rfl ?_
              refine o_nil ?_
              refine sSeq_normal ?_
              refine s_ret ?_
              refine sRet_ret [_] ⟨rfl, trivial⟩ ?_
              show _ = _
              simp_all [tupled, numbersErr]
          · skip
            refine s_ops ?_
            refine o_bin rfl rfl rfl rfl ?_
            refine o_mov rfl rfl ?_
            refine o_nil ?_
            refine sSeq_normal ?_
            refine s_cond rfl (fun hc11 => ?_) (fun hc11 => ?_)
            · have hw := numWrap x named (by simp_all) hr
              refine s_seq ?_
              refine s_ops ?_
              refine o_fad rfl rfl ?_
              refine o_ld1 rfl (by first | exact .head _ | exact .tail _ (.head _) | exact .tail _ (.tail _ (.head _)) | exact .tail _ (.tail _ (.tail _ (.head _))) | exact .tail _ (.tail _ (.tail _ (.tail _ (.head _))))) rfl rfl ?_
              refine o_mov rfl rfl ?_
              refine o_mov rfl rfl ?_
              refine o_bin rfl rfl rfl rfl ?_
              refine o_bin rfl rfl rfl rfl ?_
              refine o_bin rfl rfl rfl rfl ?_
              refine o_nil ?_
              refine sSeq_normal ?_
              refine s_cond rfl (fun hc12 => ?_) (fun hc12 => ?_)
              · skip
                refine s_seq ?_
                refine s_ops ?_
                refine o_mov rfl rfl ?_
                refine o_nil ?_
                refine sSeq_normal ?_
                refine s_ret ?_
                refine sBlock_ret ?_
                refine sSeq_ret ?_
                refine sRet_ret [_] ⟨rfl, trivial⟩ ?_
                show _ = _
                simp_all [tupled, numbersErr]
              · skip
                refine s_skip ?_
                refine sBlock_normal ?_
                refine sSeq_normal ?_
                refine s_seq ?_
                refine s_ops ?_
                refine o_mov rfl rfl ?_
                refine o_nil ?_
                refine sSeq_normal ?_
                refine s_ret ?_
                refine sRet_ret [_] ⟨rfl, trivial⟩ ?_
                show _ = _
                simp_all [tupled, numbersErr]
            · skip
              refine s_skip ?_
              refine sBlock_normal ?_
              refine sSeq_normal ?_
              refine s_seq ?_
              refine s_ops ?_
              refine o_mov rfl rfl ?_
              refine o_nil ?_
              refine sSeq_normal ?_
              refine s_ret ?_
              refine sRet_ret [_] ⟨rfl, trivial⟩ ?_
              show _ = _
              simp_all [tupled, numbersErr]
      · skip
        refine s_ops ?_
        refine o_bin rfl rfl rfl rfl ?_
        refine o_mov rfl rfl ?_
        refine o_nil ?_
        refine sSeq_normal ?_
        refine s_cond rfl (fun hc8 => ?_) (fun hc8 => ?_)
        · skip
          refine s_seq ?_
          refine s_ops ?_
          refine o_fad rfl rfl ?_
          refine o_ld1 rfl (by first | exact .head _ | exact .tail _ (.head _) | exact .tail _ (.tail _ (.head _)) | exact .tail _ (.tail _ (.tail _ (.head _))) | exact .tail _ (.tail _ (.tail _ (.tail _ (.head _))))) rfl rfl ?_
          refine o_call0 rfl (ha1 rfl) rfl (fun H1 hH1 => hsym (by simp_all) H1 _ hH1) ?_
          refine o_un rfl rfl rfl ?_
          refine o_nil ?_
          refine sSeq_normal ?_
          refine s_cond rfl (fun hc9 => ?_) (fun hc9 => ?_)
          · skip
            refine s_seq ?_
            refine s_ops ?_
            refine o_mov rfl rfl ?_
            refine o_nil ?_
            refine sSeq_normal ?_
            refine s_ret ?_
            refine sBlock_ret ?_
            refine sSeq_ret ?_
            refine sRet_ret [_] ⟨rfl, trivial⟩ ?_
            show _ = _
            simp_all [tupled, numbersErr]
          · skip
            refine s_skip ?_
            refine sBlock_normal ?_
            refine sSeq_normal ?_
            refine s_seq ?_
            refine s_ops ?_
            refine o_mov rfl rfl ?_
            refine o_nil ?_
            refine sSeq_normal ?_
            refine s_ret ?_
            refine sRet_ret [_] ⟨rfl, trivial⟩ ?_
            show _ = _
            simp_all [tupled, numbersErr]
        · skip
          refine s_seq ?_
          refine s_seq ?_
          refine s_ops ?_
          refine o_bin rfl rfl rfl rfl ?_
          refine o_mov rfl rfl ?_
          refine o_nil ?_
          refine sSeq_normal ?_
          refine s_cond rfl (fun hc10 => ?_) (fun hc10 => ?_)
          · skip
            refine s_skip ?_
            refine sSeq_normal ?_
            refine s_cond rfl (fun hc11 => ?_) (fun hc11 => ?_)
            · have hw := numWrap x named (by simp_all) hr
              refine s_seq ?_
              refine s_ops ?_
              refine o_fad rfl rfl ?_
              refine o_ld1 rfl (by first | exact .head _ | exact .tail _ (.head _) | exact .tail _ (.tail _ (.head _)) | exact .tail _ (.tail _ (.tail _ (.head _))) | exact .tail _ (.tail _ (.tail _ (.tail _ (.head _))))) rfl rfl ?_
              refine o_mov rfl rfl ?_
              refine o_mov rfl rfl ?_
              refine o_bin rfl rfl rfl rfl ?_
              refine o_bin rfl rfl rfl rfl ?_
              refine o_bin rfl rfl rfl rfl ?_
              refine o_nil ?_
              refine sSeq_normal ?_
              refine s_cond rfl (fun hc12 => ?_) (fun hc12 => ?_)
              · skip
                refine s_seq ?_
                refine s_ops ?_
                refine o_mov rfl rfl ?_
                refine o_nil ?_
                refine sSeq_normal ?_
                refine s_ret ?_
                refine sBlock_ret ?_
                refine sSeq_ret ?_
                refine sRet_ret [_] ⟨rfl, trivial⟩ ?_
                show _ = _
                simp_all [tupled, numbersErr]
              · skip
                refine s_skip ?_
                refine sBlock_normal ?_
                refine sSeq_normal ?_
                refine s_seq ?_
                refine s_ops ?_
                refine o_mov rfl rfl ?_
                refine o_nil ?_
                refine sSeq_normal ?_
                refine s_ret ?_
                refine sRet_ret [_] ⟨rfl, trivial⟩ ?_
                show _ = _
                simp_all [tupled, numbersErr]
            · skip
              refine s_skip ?_
              refine sBlock_normal ?_
              refine sSeq_normal ?_
              refine s_seq ?_
              refine s_ops ?_
              refine o_mov rfl rfl ?_
              refine o_nil ?_
              refine sSeq_normal ?_
              refine s_ret ?_
              refine sRet_ret [_] ⟨rfl, trivial⟩ ?_
              show _ = _
              simp_all [tupled, numbersErr]
          · skip
            refine s_ops ?_
            refine o_bin rfl rfl rfl rfl ?_
            refine o_mov rfl rfl ?_
            refine o_nil ?_
            refine sSeq_normal ?_
            refine s_cond rfl (fun hc11 => ?_) (fun hc11 => ?_)
            · have hw := numWrap x named (by simp_all) hr
              refine s_seq ?_
              refine s_ops ?_
              refine o_fad rfl rfl ?_
              refine o_ld1 rfl (by first | exact .head _ | exact .tail _ (.head _) | exact .tail _ (.tail _ (.head _)) | exact .tail _ (.tail _ (.tail _ (.head _))) | exact .tail _ (.tail _ (.tail _ (.tail _ (.head _))))) rfl rfl ?_
              refine o_mov rfl rfl ?_
              refine o_mov rfl rfl ?_
              refine o_bin rfl rfl rfl rfl ?_
              refine o_bin rfl rfl rfl rfl ?_
              refine o_bin rfl rfl rfl rfl ?_
              refine o_nil ?_
              refine sSeq_normal ?_
              refine s_cond rfl (fun hc12 => ?_) (fun hc12 => ?_)
              · skip
                refine s_seq ?_
                refine s_ops ?_
                refine o_mov rfl rfl ?_
                refine o_nil ?_
                refine sSeq_normal ?_
                refine s_ret ?_
                refine sBlock_ret ?_
                refine sSeq_ret ?_
                refine sRet_ret [_] ⟨rfl, trivial⟩ ?_
                show _ = _
                simp_all [tupled, numbersErr]
              · skip
                refine s_skip ?_
                refine sBlock_normal ?_
                refine sSeq_normal ?_
                refine s_seq ?_
                refine s_ops ?_
                refine o_mov rfl rfl ?_
                refine o_nil ?_
                refine sSeq_normal ?_
                refine s_ret ?_
                refine sRet_ret [_] ⟨rfl, trivial⟩ ?_
                show _ = _
                simp_all [tupled, numbersErr]
            · skip
              refine s_skip ?_
              refine sBlock_normal ?_
              refine sSeq_normal ?_
              refine s_seq ?_
              refine s_ops ?_
              refine o_mov rfl rfl ?_
              refine o_nil ?_
              refine sSeq_normal ?_
              refine s_ret ?_
              refine sRet_ret [_] ⟨rfl, trivial⟩ ?_
              show _ = _
              simp_all [tupled, numbersErr]

end Go.Proofs.YtfonnebpnobomaaDoor.W
namespace Go.Proofs.YtfonnebpnobomaaDoor.W
open Go Am code
set_option maxRecDepth 100000
set_option maxHeartbeats 4000000
set_option linter.unusedSimpArgs false
set_option linter.unusedVariables false

/-- so many subtrees, one behind the other: how many nodes they have -/
def skipN : List Node → Nat → Option Nat
  | _, 0 => some 0
  | [], _ + 1 => none
  | x :: t, k + 1 => (skipN t (k + x.kids.toNat)).map (· + 1)
theorem skipN_zero (t : List Node) : skipN t 0 = some 0 := by cases t <;> rfl
theorem skipN_add : ∀ (t : List Node) (a b : Nat), skipN t (a + b) = (skipN t a).bind fun m => (skipN (t.drop m) b).map (m + ·) := by
  intro t
  induction t with
  | nil =>
    intro a b
    cases a with
    | zero => simp only [Nat.zero_add, skipN_zero, Option.bind_some, List.drop_zero]; cases skipN [] b <;> simp
    | succ a => rw [Nat.succ_add]; rfl
  | cons x t ih =>
    intro a b
    cases a with
    | zero => simp only [Nat.zero_add, skipN_zero, Option.bind_some, List.drop_zero]; cases skipN (x :: t) b <;> simp
    | succ a =>
      rw [Nat.succ_add]
      simp only [skipN]
      rw [show a + b + x.kids.toNat = (a + x.kids.toNat) + b by omega, ih]
      cases skipN t (a + x.kids.toNat) with
      | none => rfl
      | some m =>
        simp only [Option.bind_some, Option.map_some, List.drop_succ_cons]
        cases skipN (t.drop m) b with
        | none => rfl
        | some q => simp only [Option.map_some]; congr 1; omega
theorem skipN_le : ∀ {t : List Node} {k m : Nat}, skipN t k = some m → m ≤ t.length := by
  intro t
  induction t with
  | nil => intro k m h; cases k with
    | zero => cases h; exact Nat.le_refl _
    | succ k => cases h
  | cons x t ih => intro k m h; cases k with
    | zero => cases h; exact Nat.zero_le _
    | succ k =>
      simp only [skipN] at h
      cases hs : skipN t (k + x.kids.toNat) with
      | none => rw [hs] at h; cases h
      | some q => rw [hs] at h; cases h; have := ih hs; simp; omega
theorem skipN_pos {t : List Node} {k m : Nat} (h : skipN t (k + 1) = some m) : 0 < m := by
  cases t with
  | nil => cases h
  | cons x t =>
    simp only [skipN] at h
    cases hs : skipN t (k + x.kids.toNat) with
    | none => rw [hs] at h; cases h
    | some q => rw [hs] at h; simp only [Option.map_some, Option.some.injEq] at h; omega
theorem skipN_ge : ∀ {t : List Node} {k m : Nat}, skipN t k = some m → k ≤ m := by
  intro t
  induction t with
  | nil => intro k m h; cases k with
    | zero => omega
    | succ k => cases h
  | cons x t ih => intro k m h; cases k with
    | zero => omega
    | succ k =>
      simp only [skipN] at h
      cases hs : skipN t (k + x.kids.toNat) with
      | none => rw [hs] at h; cases h
      | some q =>
        rw [hs] at h
        simp only [Option.map_some, Option.some.injEq] at h
        have := ih hs
        omega
theorem skipN_part {t : List Node} {a b m : Nat} (h : skipN t (a + b) = some m) : ∃ p q, skipN t a = some p ∧ skipN (t.drop p) b = some q ∧ p + q = m := by
  rw [skipN_add] at h
  cases hp : skipN t a with
  | none => rw [hp] at h; cases h
  | some p =>
    rw [hp] at h
    simp only [Option.bind_some] at h
    cases hq : skipN (t.drop p) b with
    | none => rw [hq] at h; cases h
    | some q => rw [hq] at h; cases h; exact ⟨p, q, rfl, hq, rfl⟩
/-- how many nodes the subtree has that begins here -/
def sizeAt (t : List Node) (i : Nat) : Nat := (skipN (t.drop i) 1).getD 0
def endAt (t : List Node) (i : Nat) : Nat := i + sizeAt t i
/-- a whole tree -/
def Whole (t : List Node) : Prop := skipN t 1 = some t.length
theorem skipN_at : ∀ {t : List Node} {k m : Nat}, skipN t k = some m → ∀ {i : Nat}, i < m → ∃ s, skipN (t.drop i) 1 = some s ∧ i + s ≤ m := by
  intro t
  induction t with
  | nil => intro k m h i hi; have := skipN_le h; simp at this; omega
  | cons x t ih =>
    intro k m h i hi
    cases i with
    | zero =>
      cases k with
      | zero => cases h; omega
      | succ k =>
        rw [Nat.add_comm] at h
        obtain ⟨p, q, h1, _, h3⟩ := skipN_part h
        exact ⟨p, h1, by omega⟩
    | succ i =>
      cases k with
      | zero => cases h; omega
      | succ k =>
        simp only [skipN] at h
        cases hs : skipN t (k + x.kids.toNat) with
        | none => rw [hs] at h; cases h
        | some q =>
          rw [hs] at h
          simp only [Option.map_some, Option.some.injEq] at h
          obtain ⟨s, g1, g2⟩ := ih hs (i := i) (by omega)
          exact ⟨s, g1, by omega⟩
theorem Whole.at {t : List Node} (h : Whole t) {i : Nat} (hi : i < t.length) : skipN (t.drop i) 1 = some (sizeAt t i) ∧ 0 < sizeAt t i ∧ endAt t i ≤ t.length := by
  obtain ⟨s, h1, h2⟩ := skipN_at h hi
  have e : sizeAt t i = s := by unfold sizeAt; rw [h1]; rfl
  rw [e]
  exact ⟨h1, skipN_pos h1, by unfold endAt; rw [e]; exact h2⟩
/-- how many nodes the first k children have -/
def kidsN (t : List Node) (i k : Nat) : Nat := (skipN (t.drop (i + 1)) k).getD 0
theorem drop_cons {t : List Node} {i : Nat} (hi : i < t.length) : t.drop i = t[i] :: t.drop (i + 1) := List.drop_eq_getElem_cons hi
theorem Whole.kids {t : List Node} (h : Whole t) {i : Nat} (hi : i < t.length) : skipN (t.drop (i + 1)) t[i].kids.toNat = some (kidsN t i t[i].kids.toNat) ∧ endAt t i = i + 1 + kidsN t i t[i].kids.toNat := by
  obtain ⟨h1, _, _⟩ := h.at hi
  rw [drop_cons hi] at h1
  simp only [skipN, Nat.zero_add] at h1
  cases hs : skipN (t.drop (i + 1)) t[i].kids.toNat with
  | none => rw [hs] at h1; cases h1
  | some q =>
    rw [hs] at h1
    have e : kidsN t i t[i].kids.toNat = q := by unfold kidsN; rw [hs]; rfl
    rw [e]
    refine ⟨rfl, ?_⟩
    simp only [Option.map_some, Option.some.injEq] at h1
    unfold endAt; rw [← h1]; omega
theorem Whole.kid {t : List Node} (h : Whole t) {i : Nat} (hi : i < t.length) {k : Nat} (hk : k < t[i].kids.toNat) :
    skipN (t.drop (i + 1)) k = some (kidsN t i k) ∧ i + 1 + kidsN t i k < t.length ∧ i + 1 + kidsN t i (k + 1) = endAt t (i + 1 + kidsN t i k) ∧ kidsN t i k < kidsN t i (k + 1) ∧ endAt t (i + 1 + kidsN t i k) ≤ endAt t i := by
  obtain ⟨h1, h2⟩ := h.kids hi
  have h3 := h1
  rw [show t[i].kids.toNat = k + (1 + (t[i].kids.toNat - k - 1)) by omega] at h3
  obtain ⟨p, q, g1, g2, g3⟩ := skipN_part h3
  obtain ⟨p2, q2, g4, g5, g6⟩ := skipN_part g2
  have e : kidsN t i k = p := by unfold kidsN; rw [g1]; rfl
  have e2 : kidsN t i (k + 1) = p + p2 := by unfold kidsN; rw [skipN_add, g1, Option.bind_some, g4]; rfl
  have hp := skipN_pos g4
  have e3 : sizeAt t (i + 1 + p) = p2 := by unfold sizeAt; rw [← List.drop_drop, g4]; rfl
  have hl := skipN_le h1
  rw [List.length_drop] at hl
  have hk2 : kidsN t i t[i].kids.toNat = p + q := by
    have : kidsN t i (k + (1 + (t[i].kids.toNat - k - 1))) = p + q := by unfold kidsN; rw [h3] ; simp [g3]
    rwa [show k + (1 + (t[i].kids.toNat - k - 1)) = t[i].kids.toNat by omega] at this
  rw [e, e2]
  unfold endAt
  rw [e3]
  have := (h.at hi).2.2
  unfold endAt at this h2
  refine ⟨g1, by omega, by omega, by omega, by omega⟩
theorem kidsN_zero (t : List Node) (i : Nat) : kidsN t i 0 = 0 := by unfold kidsN; rw [skipN_zero]; rfl

end Go.Proofs.YtfonnebpnobomaaDoor.W
namespace Go.Proofs.YtfonnebpnobomaaDoor.W
open Go Am code
set_option maxRecDepth 100000
set_option maxHeartbeats 4000000
set_option linter.unusedSimpArgs false
set_option linter.unusedVariables false
variable {E : Env} (hE : Has E)

abbrev I64 (z : Int) : Value := .int .i64 z
def fillE (t : List Node) (A : List Int) (i e : Nat) : List Int := A.mapIdx fun j a => if i ≤ j ∧ j < e then (endAt t j : Int) else a
theorem fillE_length (t : List Node) (A : List Int) (i e : Nat) : (fillE t A i e).length = A.length := by simp [fillE]
theorem fillE_none (t : List Node) (A : List Int) (i : Nat) : fillE t A i i = A := by
  apply List.ext_getElem (by simp [fillE])
  intro j h1 h2
  simp only [fillE, List.getElem_mapIdx]
  rw [if_neg (by omega)]
theorem fillE_fillE (t : List Node) (A : List Int) {a b c : Nat} (h1 : a ≤ b) (h2 : b ≤ c) : fillE t (fillE t A a b) b c = fillE t A a c := by
  apply List.ext_getElem (by simp [fillE])
  intro j h3 h4
  simp only [fillE, List.getElem_mapIdx]
  by_cases hb : b ≤ j
  · by_cases hc : j < c
    · rw [if_pos ⟨hb, hc⟩, if_pos ⟨by omega, hc⟩]
    · rw [if_neg (by omega), if_neg (by omega), if_neg (by omega)]
  · by_cases ha : a ≤ j
    · rw [if_neg (by omega), if_pos (by omega), if_pos (by omega)]
    · rw [if_neg (by omega), if_neg (by omega), if_neg (by omega)]
theorem fillE_set (t : List Node) (A : List Int) {i e : Nat} (he : endAt t i = e) (hie : i < e) (hi : i < A.length) : (fillE t A (i + 1) e).set i (e : Int) = fillE t A i e := by
  apply List.ext_getElem (by simp [fillE])
  intro j h3 h4
  simp only [fillE, List.getElem_set, List.getElem_mapIdx]
  by_cases hj : i = j
  · subst hj; rw [if_pos rfl, if_pos ⟨by omega, hie⟩, he]
  · rw [if_neg hj]
    by_cases h5 : i + 1 ≤ j ∧ j < e
    · rw [if_pos h5, if_pos ⟨by omega, h5.2⟩]
    · rw [if_neg h5, if_neg (by omega)]
/-- what 'ends' sees: the term, itself, the list that it fills -/
structure EndsSt (H : Hp) (fn : FuncId) (b1 b2 b3 bo : Nat) (ob : Option Addr) (cap : Nat) (t : List Node) : Prop where
  o1 : ∃ o, H.get b1 = .row [.slice ob t.length cap] o
  o2 : ∃ o, H.get b2 = .row [.func (.func fn) #[] #[.pointer (some ⟨b1, 0, none⟩), .pointer (some ⟨b2, 0, none⟩), .pointer (some ⟨b3, 0, none⟩)]] o
  o3 : ∃ o, H.get b3 = .row [.slice (some ⟨bo, 0, some 0⟩) t.length t.length] o
  l1 : b1 < H.size
  l2 : b2 < H.size
  l3 : b3 < H.size
  lo : bo < H.size
  n1 : b1 ≠ bo
  n2 : b2 ≠ bo
  n3 : b3 ≠ bo
  sl : SlE H 6 ob (t.map Node.cells)
  nt : ∀ a, ob = some a → a.block ≠ bo
theorem EndsSt.mono {H H1 : Hp} {fn : FuncId} {b1 b2 b3 bo : Nat} {ob : Option Addr} {cap : Nat} {t : List Node} {M : Ms} (h : EndsSt H fn b1 b2 b3 bo ob cap t) (h1 : St H [bo] H1 M) : EndsSt H1 fn b1 b2 b3 bo ob cap t := by
  have k : ∀ b, b < H.size → b ≠ bo → H1.get b = H.get b := fun b hb hn => h1.old b hb (by simpa using hn)
  exact ⟨by rw [k _ h.l1 h.n1]; exact h.o1, by rw [k _ h.l2 h.n2]; exact h.o2, by rw [k _ h.l3 h.n3]; exact h.o3, Nat.lt_of_lt_of_le h.l1 h1.size, Nat.lt_of_lt_of_le h.l2 h1.size, Nat.lt_of_lt_of_le h.l3 h1.size, Nat.lt_of_lt_of_le h.lo h1.size, h.n1, h.n2, h.n3,
    h.sl.mono h1 (fun a ha => by simpa using h.nt a ha), h.nt⟩

include hE in
theorem ends1_spec {t : List Node} (ht : Whole t) (hbig : t.length ≤ 1000000000) (hk0 : ∀ x ∈ t, 0 ≤ x.kids) : ∀ s i, sizeAt t i = s → ∀ (hi : i < t.length) (A : List Int) (H : Hp) (b1 b2 b3 bo : Nat) (ob : Option Addr) (cap : Nat), A.length = t.length → EndsSt H 57 b1 b2 b3 bo ob cap t → H.get bo = .row (A.map I64) true →
    Sc E 57 [I64 i, .pointer (some ⟨b1, 0, none⟩), .pointer (some ⟨b2, 0, none⟩), .pointer (some ⟨b3, 0, none⟩)] H [bo] fun v M => v = I64 (endAt t i) ∧ M = [(bo, .row ((fillE t A i (endAt t i)).map I64) true)] := by
  intro s
  induction s using Nat.strongRecOn with
  | ind s ih =>
  intro i hs hi A H b1 b2 b3 bo ob cap hA hst hbo
  obtain ⟨w1, w2, w3⟩ := ht.at hi
  obtain ⟨k1, k2⟩ := ht.kids hi
  have hki : 0 ≤ t[i].kids := hk0 _ (List.getElem_mem hi)
  obtain ⟨o1, ho1⟩ := hst.o1
  obtain ⟨o2, ho2⟩ := hst.o2
  obtain ⟨o3, ho3⟩ := hst.o3
  have hob := (hst.sl.get (i := i) (by simpa using hi)).1
  have hblk := (hst.sl.get (i := i) (by simpa using hi)).2.1
  have hcell : H.cell? ⟨(adr ob 6 i).block, (adr ob 6 i).off + 1, none⟩ = some (.int .i64 t[i].kids) := hst.sl.cell (i := i) (j := 1) (by simpa using hi) (by simp [Node.cells])
  have hnb : (adr ob 6 i).block ≠ bo := by
    obtain ⟨a, rfl⟩ := Option.isSome_iff_exists.1 hob
    exact hst.nt a rfl

  refine sc_bodyM (M0 := [(bo, .row (A.map I64) true)]) (by simp [hbo, hst.lo]) (by simp) hE.h57 rfl ?_
  show Ss E _ _ _ c57.body _ _ _
  unfold c57
  refine s_seq ?_
  refine s_ops ?_
  refine o_mov rfl rfl ?_
  refine o_nil ?_
  refine sSeq_normal ?_
  refine s_seq ?_
  refine s_ops ?_
  refine o_mov rfl rfl ?_
  refine o_bin (v := I64 (i + 1 : Nat)) rfl rfl (by simp only [binV, binInt, if_true]; rw [wrap64 (by omega) (by omega)]; rfl) rfl ?_
  refine o_mov rfl rfl ?_
  refine o_nil ?_
  refine sSeq_normal ?_
  refine s_seq ?_
  refine s_seq ?_
  refine s_ops ?_
  refine o_ld1_old rfl hst.l1 (by simpa using hst.n1) (Am.cell_of_row ho1 rfl) rfl ?_
  refine o_mov rfl rfl ?_
  refine o_iad rfl rfl hi hob rfl ?_
  refine o_fad rfl rfl ?_
  refine o_ld1_old rfl hblk (by simpa using hnb) hcell rfl ?_
  refine o_mov rfl rfl ?_
  refine o_nil ?_
  refine sSeq_normal ?_
  refine s_block ?_
  refine s_iter (α := Nat) (fun k => t[i].kids.toNat - k) (fun k => [(0, I64 i), (1, .pointer (some ⟨b1, 0, none⟩)), (2, .pointer (some ⟨b2, 0, none⟩)), (3, .pointer (some ⟨b3, 0, none⟩)), (6, I64 (i + 1 + kidsN t i k : Nat)), (13, I64 t[i].kids), (14, I64 (k : Nat))]) (fun k => [(bo, .row ((fillE t A (i + 1) (i + 1 + kidsN t i k)).map I64) true)]) (fun k => k ≤ t[i].kids.toNat) 0 (subCons rfl (subCons rfl (subCons rfl (subCons rfl (subEq rfl (by rw [kidsN_zero]) (subCons rfl (subEq rfl rfl subNil))))))) (by rw [kidsN_zero, Nat.add_zero, fillE_none]; exact .refl _) (Nat.zero_le _) ?_
  intro z hz
  refine s_seq ?_
  refine s_ops ?_
  refine o_bin rfl rfl rfl rfl ?_
  refine o_nil ?_
  refine sSeq_normal ?_
  refine s_seq ?_
  refine s_cond rfl (fun hc0 => ?_) (fun hc0 => ?_)
  · have hz2 : z < t[i].kids.toNat := by simp at hc0; omega
    obtain ⟨q1, q2, q3, q4, q5⟩ := ht.kid hi hz2
    have q6 := skipN_ge q1
    refine s_skip ?_
    refine sSeq_normal ?_
    refine s_seq ?_
    refine s_block ?_
    refine s_ops ?_
    refine o_ld1_old rfl hst.l2 (by simpa using hst.n2) (Am.cell_of_row ho2 rfl) rfl ?_
    refine o_mov rfl rfl ?_
    refine o_call rfl (ha1 rfl) rfl (fun H1 hH1 => ⟨[bo], [], by simp, by simp, .nil, (ih (sizeAt t (i + 1 + kidsN t i z)) (by unfold endAt at q5; subst hs; omega) (i + 1 + kidsN t i z) rfl q2 _ H1 b1 b2 b3 bo ob cap (by rw [fillE_length, hA]) (hst.mono hH1) (hH1.row (.head _))).mono ?_⟩)
    rintro v M1 ⟨rfl, rfl⟩
    refine o_mov rfl rfl ?_
    refine o_nil ?_
    refine sBlock_normal ?_
    refine sSeq_normal ?_
    refine s_ops ?_
    refine o_bin (v := I64 (z + 1 : Nat)) rfl rfl (by simp only [binV, binInt, if_true]; rw [wrap64 (by omega) (by omega)]; rfl) rfl ?_
    refine o_mov rfl rfl ?_
    refine o_nil ?_
    exact sIter_next (z + 1) (by omega) (subCons rfl (subCons rfl (subCons rfl (subCons rfl (subEq rfl (by rw [← q3]) (subCons rfl (subCons rfl subNil))))))) (by rw [fillE_fillE _ _ (by omega) (by unfold endAt; omega), ← q3]; exact .refl _) hz2
  · have hz2 : z = t[i].kids.toNat := by simp at hc0; omega
    subst hz2
    refine s_exit ?_
    refine sSeq_exit ?_
    refine sIter_exit ?_
    refine sBlock_exit ?_
    refine sSeq_normal ?_
    refine s_seq ?_
    refine s_ops ?_
    refine o_ld1_old rfl hst.l3 (by simpa using hst.n3) (Am.cell_of_row ho3 rfl) rfl ?_
    refine o_mov rfl rfl ?_
    refine o_mov rfl rfl ?_
    refine o_iad rfl rfl hi rfl rfl ?_
    refine o_stN (M1 := []) (M2 := []) (cn := (fillE t A i (endAt t i)).map I64) rfl rfl rfl rfl (by show 0 + i * 1 + 1 ≤ _; simp [fillE_length]; omega) rfl ?_ ?_
    · show setAll _ (0 + i * 1) [I64 _] = _
      rw [setAll_one _ _ _ (by simp [fillE_length]; omega)]
      rw [← fillE_set t A rfl (by unfold endAt; omega) (by omega), List.map_set, k2]
      simp
    refine o_nil ?_
    refine sSeq_normal ?_
    refine s_seq ?_
    refine s_ops ?_
    refine o_mov rfl rfl ?_
    refine o_mov rfl rfl ?_
    refine o_nil ?_
    refine sSeq_normal ?_
    refine s_ret ?_
    refine sRet_ret [_] ⟨rfl, trivial⟩ ?_
    exact ⟨by rw [k2]; rfl, rfl⟩

end Go.Proofs.YtfonnebpnobomaaDoor.W
namespace Go.Proofs.YtfonnebpnobomaaDoor.W
open Go Am code
set_option maxRecDepth 100000
set_option maxHeartbeats 4000000
set_option linter.unusedSimpArgs false
set_option linter.unusedVariables false
variable {E : Env} (hE : Has E)

def endsL (t : List Node) : List Int := (List.range t.length).map fun j => (endAt t j : Int)
theorem fillE_all (t : List Node) (A : List Int) (h : A.length = t.length) : fillE t A 0 t.length = endsL t := by
  apply List.ext_getElem (by simp [fillE, endsL, h])
  intro j h1 h2
  simp only [fillE, endsL, List.getElem_mapIdx, List.getElem_map, List.getElem_range]
  rw [if_pos ⟨Nat.zero_le _, by simpa [endsL] using h2⟩]
theorem zeroCells_map (n : Nat) : zeroCells [.int .i64 0] n = (List.replicate n (0 : Int)).map I64 := by
  induction n with
  | zero => rfl
  | succ n ih => simp only [zeroCells, ih, List.replicate_succ, List.map_cons]; rfl
theorem Whole.pos {t : List Node} (h : Whole t) : 0 < t.length := by
  cases t with
  | nil => cases h
  | cons x t => simp
theorem Whole.end0 {t : List Node} (h : Whole t) : endAt t 0 = t.length := by unfold endAt sizeAt; rw [List.drop_zero, h]; simp

include hE in
theorem ends_spec {t : List Node} (ht : Whole t) (hbig : t.length ≤ 1000000000) (hk0 : ∀ x ∈ t, 0 ≤ x.kids) (H : Hp) (ob : Option Addr) (cap : Nat) (hsl : SlE H 6 ob (t.map Node.cells)) :
    Sc E 45 [.slice ob t.length cap] H [] fun v M => ∃ b, v = .slice (some ⟨b, 0, some 0⟩) t.length t.length ∧ (b, .row ((endsL t).map I64) true) ∈ M := by
  have hp := ht.pos
  refine sc_body hE.h45 rfl ?_
  show Ss E _ _ _ c45.body _ _ _
  unfold c45
  refine s_seq ?_
  refine s_ops ?_
  refine o_box (c := [.slice ob t.length cap]) rfl rfl rfl (fun b0 => ?_)
  refine o_mov rfl rfl ?_
  refine o_nil ?_
  refine sSeq_normal ?_
  refine s_seq ?_
  refine s_ops ?_
  refine o_ld1 rfl (by first | exact .head _ | exact .tail _ (.head _) | exact .tail _ (.tail _ (.head _)) | exact .tail _ (.tail _ (.tail _ (.head _))) | exact .tail _ (.tail _ (.tail _ (.tail _ (.head _))))) rfl rfl ?_
  refine o_lnl rfl rfl ?_
  refine o_mks rfl rfl (Nat.le_refl _) (by omega) (by decide) rfl (fun b4 => ?_)
  rw [zeroCells_map]
  refine o_newz rfl (fun b5 => ?_)
  refine o_stN (M1 := []) (cn := [.slice (some ⟨b4, 0, some 0⟩) t.length t.length]) rfl rfl rfl rfl (by simp [Value.cells]) rfl rfl ?_
  refine o_nil ?_
  refine sSeq_normal ?_
  refine s_seq ?_
  refine s_ops ?_
  refine o_newz rfl (fun b7 => ?_)
  refine o_nil ?_
  refine sSeq_normal ?_
  refine s_seq ?_
  refine s_ops ?_
  refine o_fn ha0 (ha3 rfl rfl rfl) rfl ?_
  refine o_stN (M1 := []) (cn := [.func (.func 57) #[] #[.pointer (some ⟨b0, 0, none⟩), .pointer (some ⟨b7, 0, none⟩), .pointer (some ⟨b5, 0, none⟩)]]) rfl rfl rfl rfl (by simp [Value.cells]) rfl rfl ?_
  refine o_nil ?_
  refine sSeq_normal ?_
  refine s_seq ?_
  refine s_ops ?_
  refine o_ld1 rfl (by first | exact .head _ | exact .tail _ (.head _) | exact .tail _ (.tail _ (.head _)) | exact .tail _ (.tail _ (.tail _ (.head _))) | exact .tail _ (.tail _ (.tail _ (.tail _ (.head _))))) rfl rfl ?_
  refine o_call rfl (ha1 rfl) rfl (fun H1 hH1 => ⟨[b4], [(b7, .row [.func (.func 57) #[] #[.pointer (some ⟨b0, 0, none⟩), .pointer (some ⟨b7, 0, none⟩), .pointer (some ⟨b5, 0, none⟩)]] true), (b5, .row [.slice (some ⟨b4, 0, some 0⟩) t.length t.length] true), (b0, .row [.slice ob t.length cap] true)], ?_, ?_, ?_, (ends1_spec hE ht hbig hk0 _ 0 rfl hp (List.replicate t.length 0) H1 b0 b7 b5 b4 ob cap (by simp) ?_ (hH1.row (.tail _ (.tail _ (.head _))))).mono ?_⟩)
  · intro b hb
    obtain rfl : b = b4 := by simpa using hb
    exact .inr (hH1.ge (.tail _ (.tail _ (.head _))))
  · have hd := hH1.diff
    simp at hd
    intro x hx
    simp at hx
    rcases hx with rfl | rfl | rfl <;> refine ⟨by simp, ?_⟩ <;> simp <;> omega
  · have hd := hH1.diff
    simp at hd ⊢
    omega
  · have hd := hH1.diff
    simp at hd
    refine ⟨⟨_, hH1.row (.tail _ (.tail _ (.tail _ (.head _))))⟩, ⟨_, hH1.row (.head _)⟩, ⟨_, hH1.row (.tail _ (.head _))⟩, hH1.lt (.tail _ (.tail _ (.tail _ (.head _)))), hH1.lt (.head _), hH1.lt (.tail _ (.head _)), hH1.lt (.tail _ (.tail _ (.head _))), by omega, by omega, by omega, hsl.mono hH1 (fun _ _ h => (by cases h)), ?_⟩
    intro a ha
    obtain ⟨a', ha', h1, _⟩ := hsl.all (by intro e; rw [List.map_eq_nil_iff] at e; rw [e] at hp; simp at hp)
    rw [ha] at ha'; cases ha'
    have := hH1.ge (.tail _ (.tail _ (.head _)))
    omega
  rintro v M1 ⟨rfl, rfl⟩
  refine o_nil ?_
  refine sSeq_normal ?_
  refine s_seq ?_
  refine s_ops ?_
  refine o_ld1 rfl (by first | exact .head _ | exact .tail _ (.head _) | exact .tail _ (.tail _ (.head _)) | exact .tail _ (.tail _ (.tail _ (.head _))) | exact .tail _ (.tail _ (.tail _ (.tail _ (.head _))))) rfl rfl ?_
  refine o_mov rfl rfl ?_
  refine o_nil ?_
  refine sSeq_normal ?_
  refine s_ret ?_
  refine sRet_ret [_] ⟨rfl, trivial⟩ ?_
  refine ⟨b4, rfl, ?_⟩
  rw [ht.end0, fillE_all _ _ (by simp)]
  exact .head _

end Go.Proofs.YtfonnebpnobomaaDoor.W
namespace Go.Proofs.YtfonnebpnobomaaDoor.W
open Go Am code
set_option maxRecDepth 100000
set_option maxHeartbeats 4000000
set_option linter.unusedSimpArgs false
set_option linter.unusedVariables false
variable {E : Env} (hE : Has E)

def kidsL (t : List Node) (i k : Nat) : List Int := (List.range k).map fun j => ((i + 1 + kidsN t i j : Nat) : Int)
theorem kidsL_succ (t : List Node) (i k : Nat) : kidsL t i (k + 1) = kidsL t i k ++ [((i + 1 + kidsN t i k : Nat) : Int)] := by simp [kidsL, List.range_succ]
theorem kidsL_length (t : List Node) (i k : Nat) : (kidsL t i k).length = k := by simp [kidsL]
theorem endsL_length (t : List Node) : (endsL t).length = t.length := by simp [endsL]
/-- a slice of numbers -/
def ints (l : List Int) : List (List Value) := l.map fun z => [I64 z]
theorem ints_length (l : List Int) : (ints l).length = l.length := by simp [ints]
theorem ints_flat (l : List Int) : (ints l).flatten = l.map I64 := by
  induction l with
  | nil => rfl
  | cons x l ih => simp only [ints, List.map_cons, List.flatten_cons] at ih ⊢; rw [ih]; rfl
theorem sl_int {H : Hp} {ob : Option Addr} {l : List Int} (h : SlE H 1 ob (ints l)) {i : Nat} (hi : i < l.length) : ob.isSome = true ∧ (adr ob 1 i).block < H.size ∧ H.cell? (adr ob 1 i) = some (I64 l[i]) := by
  have hi' : i < (ints l).length := by rw [ints_length]; exact hi
  refine ⟨(h.get hi').1, (h.get hi').2.1, ?_⟩
  have := h.cell (i := i) (j := 0) (v := I64 l[i]) hi' (by simp [ints])
  exact this
theorem endsL_at (t : List Node) {i : Nat} (hi : i < (endsL t).length) : (endsL t)[i] = (endAt t i : Int) := by simp [endsL]

include hE in
theorem kids_spec {t : List Node} (ht : Whole t) (hbig : t.length ≤ 1000000000) {i : Nat} (hi : i < t.length) (H : Hp) (sv : Value) (oe : Option Addr) (ce : Nat) (hse : SlE H 1 oe (ints (endsL t))) :
    Sc E 58 [sv, .slice oe t.length ce, I64 i] H [] fun v M => ∃ Mo, Own 1 v ((kidsL t i t[i].kids.toNat).map I64) Mo ∧ List.Sublist Mo M := by
  obtain ⟨k1, k2⟩ := ht.kids hi
  obtain ⟨w1, w2, w3⟩ := ht.at hi
  obtain ⟨e1, e2, e3⟩ := sl_int hse (i := i) (by rw [endsL_length]; exact hi)
  rw [endsL_at] at e3
  refine sc_body hE.h58 rfl ?_
  show Ss E _ _ _ c58.body _ _ _
  unfold c58
  refine s_seq ?_
  refine s_ops ?_
  refine o_mov rfl rfl ?_
  refine o_nil ?_
  refine sSeq_normal ?_
  refine s_seq ?_
  refine s_ops ?_
  refine o_mov rfl rfl ?_
  refine o_nil ?_
  refine sSeq_normal ?_
  refine s_seq ?_
  refine s_seq ?_
  refine s_ops ?_
  refine o_mov rfl rfl ?_
  refine o_bin (v := I64 (i + 1 : Nat)) rfl rfl (by simp only [binV, binInt, if_true]; rw [wrap64 (by omega) (by omega)]; rfl) rfl ?_
  refine o_mov rfl rfl ?_
  refine o_nil ?_
  refine sSeq_normal ?_
  refine s_block ?_
  refine s_iter (α := Nat × Value × Ms) (fun z => t[i].kids.toNat - z.1) (fun z => [(1, .slice oe t.length ce), (2, I64 i), (7, z.2.1), (8, I64 (i + 1 + kidsN t i z.1 : Nat))]) (fun z => z.2.2) (fun z => z.1 ≤ t[i].kids.toNat ∧ Own 1 z.2.1 ((kidsL t i z.1).map I64) z.2.2) (0, .slice none 0 0, []) (subCons rfl (subCons rfl (subCons rfl (subEq rfl (by simp [kidsN_zero]) subNil)))) (.refl _) ⟨Nat.zero_le _, .inl ⟨rfl, rfl, rfl⟩⟩ ?_
  rintro ⟨k, sv, Mo⟩ ⟨hk, hO⟩
  dsimp only
  refine s_seq ?_
  refine s_seq ?_
  refine s_ops ?_
  refine o_mov rfl rfl ?_
  refine o_mov rfl rfl ?_
  refine o_mov rfl rfl ?_
  refine o_iad rfl rfl hi e1 rfl ?_
  refine o_ld1_old rfl e2 (by simp) e3 rfl ?_
  refine o_bin rfl rfl rfl rfl ?_
  refine o_nil ?_
  refine sSeq_normal ?_
  refine s_cond rfl (fun hc0 => ?_) (fun hc0 => ?_)
  · have hk2 : k < t[i].kids.toNat := by
      simp at hc0
      by_cases e : k = t[i].kids.toNat
      · subst e; omega
      · omega
    obtain ⟨q1, q2, q3, q4, q5⟩ := ht.kid hi hk2
    have q6 := skipN_ge q1
    obtain ⟨f1, f2, f3⟩ := sl_int hse (i := i + 1 + kidsN t i k) (by rw [endsL_length]; exact q2)
    rw [endsL_at] at f3
    refine s_skip ?_
    refine sSeq_normal ?_
    refine s_seq ?_
    refine s_block ?_
    refine s_ops ?_
    refine o_mov rfl rfl ?_
    refine o_mov rfl rfl ?_
    refine o_lits (c := [I64 (i + 1 + kidsN t i k : Nat)]) (fun F hF => by simp only [List.map, hF.ev (x := .tmp 22) rfl]; rfl) rfl (fun b13 => ?_)
    refine o_app (Mr := []) (len := k) (new := [I64 (i + 1 + kidsN t i k : Nat)]) rfl rfl hO (by simp [kidsL_length]) (by decide) (by decide) (fun H1 hH1 => by simp [Hp.cells?, hH1.row (.head _)]) rfl (by omega) (by simp) rfl (fun b14 => ?_)
    refine o_mov rfl rfl ?_
    refine o_nil ?_
    refine sBlock_normal ?_
    refine sSeq_normal ?_
    refine s_ops ?_
    refine o_mov rfl rfl ?_
    refine o_mov rfl rfl ?_
    refine o_iad rfl rfl q2 f1 rfl ?_
    refine o_ld1_old rfl f2 (by simp) f3 rfl ?_
    refine o_mov rfl rfl ?_
    refine o_nil ?_
    refine sIter_next (k + 1, _, _) (by dsimp only; omega) (subCons rfl (subCons rfl (subCons rfl (subEq rfl (by dsimp only; rw [q3]) subNil)))) (.refl _) ⟨hk2, .inr ⟨b14, k + 1, k + 1, 2, _, rfl, rfl, by simp [kidsL_length], ?_, by simp [kidsL_length], .inr ⟨rfl, by omega, Nat.le_refl _⟩⟩⟩
    rw [kidsL_succ, List.map_append]
    exact List.take_of_length_le (by simp [kidsL_length])
  · have hk2 : k = t[i].kids.toNat := by
      simp at hc0
      by_cases e : k < t[i].kids.toNat
      · obtain ⟨q1, q2, q3, q4, q5⟩ := ht.kid hi e
        unfold endAt at q5 k2 hc0
        have := (ht.at q2).2.1
        omega
      · omega
    subst hk2
    refine s_exit ?_
    refine sSeq_exit ?_
    refine sIter_exit ?_
    refine sBlock_exit ?_
    refine sSeq_normal ?_
    refine s_seq ?_
    refine s_ops ?_
    refine o_mov rfl rfl ?_
    refine o_mov rfl rfl ?_
    refine o_nil ?_
    refine sSeq_normal ?_
    refine s_ret ?_
    refine sRet_ret [_] ⟨rfl, trivial⟩ ?_
    exact ⟨Mo, hO, .refl _⟩


def maxL (l : List Int) : Int := match l with
  | [] => 0
  | z :: r => r.foldl (fun a b => if b > a then b else a) z
theorem maxL_take {l : List Int} {k : Nat} (hk : 0 < k) (h : k < l.length) : maxL (l.take (k + 1)) = if l[k] > maxL (l.take k) then l[k] else maxL (l.take k) := by
  cases l with
  | nil => cases h
  | cons z r =>
    obtain ⟨k, rfl⟩ : ∃ j, k = j + 1 := ⟨k - 1, by omega⟩
    have hk' : k < r.length := by simpa using h
    simp only [List.take_succ_cons, maxL, List.getElem_cons_succ]
    rw [List.take_succ_eq_append_getElem hk', List.foldl_append]
    rfl

include hE in
theorem max_spec (l : List Int) (hl : 0 < l.length) (hbig : l.length ≤ 1000000000) (H : Hp) (ob : Option Addr) (cap : Nat) (hs : SlE H 1 ob (ints l)) : Sc E 44 [.slice ob l.length cap] H [] fun v _ => v = I64 (maxL l) := by
  obtain ⟨e1, e2, e3⟩ := sl_int hs hl
  refine sc_body hE.h44 rfl ?_
  show Ss E _ _ _ c44.body _ _ _
  unfold c44
  refine s_seq ?_
  refine s_ops ?_
  refine o_mov rfl rfl ?_
  refine o_nil ?_
  refine sSeq_normal ?_
  refine s_seq ?_
  refine s_seq ?_
  refine s_ops ?_
  refine o_mov rfl rfl ?_
  refine o_lnl rfl rfl ?_
  refine o_bin rfl rfl rfl rfl ?_
  refine o_nil ?_
  refine sSeq_normal ?_
  refine s_cond rfl (fun hc0 => ?_) (fun hc0 => ?_)
  · exfalso
    simp at hc0
    omega -- done
  · skip
    refine s_skip ?_
    refine sSeq_normal ?_
    refine s_seq ?_
    refine s_ops ?_
    refine o_mov rfl rfl ?_
    refine o_iad rfl (i := 0) rfl hl e1 rfl ?_
    refine o_ld1_old rfl e2 (by simp) e3 rfl ?_
    refine o_mov rfl rfl ?_
    refine o_nil ?_
    refine sSeq_normal ?_
    refine s_seq ?_
    refine s_seq ?_
    refine s_ops ?_
    refine o_mov rfl rfl ?_
    refine o_nil ?_
    refine sSeq_normal ?_
    refine s_block ?_
    refine s_iter (α := Nat) (fun k => l.length - k) (fun k => [(0, .slice ob l.length cap), (3, I64 (maxL (l.take k))), (4, I64 k)]) (fun _ => []) (fun k => 0 < k ∧ k ≤ l.length) 1 (subCons rfl (subEq rfl ?_ (subCons rfl subNil))) (List.nil_sublist _) ⟨by decide, hl⟩ ?_
    · cases l with
      | nil => cases hl
      | cons z r => simp [maxL]
    rintro k ⟨hk, hk2⟩
    refine s_seq ?_
    refine s_seq ?_
    refine s_ops ?_
    refine o_mov rfl rfl ?_
    refine o_mov rfl rfl ?_
    refine o_lnl rfl rfl ?_
    refine o_bin rfl rfl rfl rfl ?_
    refine o_nil ?_
    refine sSeq_normal ?_
    refine s_cond rfl (fun hc1 => ?_) (fun hc1 => ?_)
    · have hk3 : k < l.length := by simp at hc1; exact hc1
      obtain ⟨f1, f2, f3⟩ := sl_int hs hk3
      refine s_skip ?_
      refine sSeq_normal ?_
      refine s_seq ?_
      refine s_block ?_
      refine s_ops ?_
      refine o_mov rfl rfl ?_
      refine o_mov rfl rfl ?_
      refine o_mov rfl rfl ?_
      refine o_iad rfl rfl hk3 f1 rfl ?_
      refine o_ld1_old rfl f2 (by simp) f3 rfl ?_
      refine o_max2 rfl rfl rfl ?_
      refine o_mov rfl rfl ?_
      refine o_nil ?_
      refine sBlock_normal ?_
      refine sSeq_normal ?_
      refine s_ops ?_
      refine o_mov rfl rfl ?_
      refine o_bin (v := I64 (k + 1 : Nat)) rfl rfl (by simp only [binV, binInt, if_true]; rw [wrap64 (by omega) (by omega)]; rfl) rfl ?_
      refine o_mov rfl rfl ?_
      refine o_nil ?_
      exact sIter_next (k + 1) (by omega) (subCons rfl (subEq rfl (by rw [maxL_take hk hk3]) (subCons rfl subNil))) (List.nil_sublist _) ⟨by omega, hk3⟩
    · have hk3 : k = l.length := by simp at hc1; omega
      subst hk3
      rw [List.take_length]
      refine s_exit ?_
      refine sSeq_exit ?_
      refine sIter_exit ?_
      refine sBlock_exit ?_
      refine sSeq_normal ?_
      refine s_seq ?_
      refine s_ops ?_
      refine o_mov rfl rfl ?_
      refine o_mov rfl rfl ?_
      refine o_nil ?_
      refine sSeq_normal ?_
      refine s_ret ?_
      refine sRet_ret [_] ⟨rfl, trivial⟩ ?_
      rfl

end Go.Proofs.YtfonnebpnobomaaDoor.W
namespace Go.Proofs.YtfonnebpnobomaaDoor.W
open Go Am code
set_option maxRecDepth 100000
set_option maxHeartbeats 4000000
set_option linter.unusedSimpArgs false
set_option linter.unusedVariables false
variable {E : Env} (hE : Has E)

def kidBad (x y : Node) (k : Nat) (p l : Int) : Bool := ((y.kind == 12) != decide ((k : Int) < p)) || ((decide ((k : Int) ≥ p) && decide ((k : Int) < p + l)) && y.kind != 8) || (x.kind == 5 && !isValue y.kind)
def famGo (t : List Node) (x : Node) (p l : Int) : List Nat → Nat → List Int → Bool → Int
  | [], _, _, tw => if tw then 8 else 0
  | a :: r, k, seen, tw =>
    match t[a]? with
    | none => 0
    | some y => if kidBad x y k p l then 6 else if (k : Int) < p then famGo t x p l r (k + 1) (if y.n ∈ seen then seen else seen ++ [y.n]) (tw || seen.contains y.n) else famGo t x p l r (k + 1) seen tw
def kidsA (t : List Node) (i : Nat) (k : Nat) : List Nat := (List.range k).map fun j => i + 1 + kidsN t i j
def familyErr (t : List Node) (x : Node) (i : Nat) (named : Bool) : Int := if x.kids = 0 then 0 else famGo t x (lead x named).1 (lead x named).2 (kidsA t i x.kids.toNat) 0 [] false
theorem leadB (x : Node) (named : Bool) (hr : rangeBad x = false) : 0 ≤ (lead x named).1 ∧ (lead x named).1 ≤ 8 ∧ 0 ≤ (lead x named).2 ∧ (lead x named).2 ≤ 8 := by
  by_cases hk : x.kind = 8 ∨ x.kind = 11
  · have h0 : 0 ≤ x.n ∧ x.n ≤ 8 := by
      rcases hk with h | h <;> simp [rangeBad, nLow, nHigh, h] at hr <;> omega
    unfold lead
    dsimp only
    refine ⟨?_, ?_, ?_, ?_⟩ <;> split <;> omega
  · have h1 : ¬ x.kind = 11 := fun h => hk (.inr h)
    unfold lead
    dsimp only
    rw [if_neg (fun h => hk h.1), if_neg h1]; omega
def MapIs (p : Int) (mv : Value) (Mm : Ms) (seen : List Int) : Prop := (p > 0 ∧ ∃ bm es clock, mv = .map (some bm) ∧ Mm = [(bm, .map es clock)] ∧ IntSet es seen) ∨ (¬ p > 0 ∧ mv = .map none ∧ Mm = [])
theorem kidsL_at (t : List Node) (i n k : Nat) (h : k < n) : ((kidsL t i n).map I64)[k]? = some (I64 (i + 1 + kidsN t i k : Nat)) := by
  simp [kidsL, h]
theorem kidsA_drop (t : List Node) (i n k : Nat) (h : k < n) : (kidsA t i n).drop k = (i + 1 + kidsN t i k) :: (kidsA t i n).drop (k + 1) := by
  have h1 : k < (kidsA t i n).length := by simpa [kidsA] using h
  rw [List.drop_eq_getElem_cons h1]
  simp [kidsA]

include hE in
theorem family_spec {t : List Node} (ht : Whole t) (hbig : t.length ≤ 1000000000) (hk0 : ∀ x ∈ t, 0 ≤ x.kids) (hr : ∀ x ∈ t, rangeBad x = false) {i : Nat} (hi : i < t.length) (named : Bool) (H : Hp) (ob oe : Option Addr) (cap ce : Nat) (hsl : SlE H 6 ob (t.map Node.cells)) (hse : SlE H 1 oe (ints (endsL t))) :
    Sc E 46 [.slice ob t.length cap, .slice oe t.length ce, I64 i, .bool named] H [] fun v _ => v = I64 (familyErr t t[i] i named) := by
  have acc : ∀ {j : Nat} (hj : j < t.length), ob.isSome = true ∧ (adr ob 6 j).block < H.size ∧ H.cells? (adr ob 6 j) 6 = some t[j].cells := fun {j} hj => by
    have := hsl.get (i := j) (by simpa using hj)
    simpa using this
  have accK : ∀ {j : Nat} (hj : j < t.length), H.cell? ⟨(adr ob 6 j).block, (adr ob 6 j).off + 0, none⟩ = some (I64 t[j].kind) := fun {j} hj => hsl.cell (i := j) (j := 0) (by simpa using hj) (by simp [Node.cells])
  have acc1 : ∀ {j : Nat} (hj : j < t.length), H.cell? ⟨(adr ob 6 j).block, (adr ob 6 j).off + 1, none⟩ = some (I64 t[j].kids) := fun {j} hj => hsl.cell (i := j) (j := 1) (by simpa using hj) (by simp [Node.cells])
  obtain ⟨a1, a2, a3⟩ := acc hi
  have hki : 0 ≤ t[i].kids := hk0 _ (List.getElem_mem hi)
  have hri := hr _ (List.getElem_mem hi)
  have hkk := (ht.kids hi).1
  have hkl := skipN_le hkk
  have hkg := skipN_ge hkk
  rw [List.length_drop] at hkl
  obtain ⟨p, hp⟩ : ∃ p, p = (lead t[i] named).1 := ⟨_, rfl⟩
  obtain ⟨l, hl⟩ : ∃ l, l = (lead t[i] named).2 := ⟨_, rfl⟩
  have hb := leadB t[i] named hri
  rw [← hp, ← hl] at hb
  have hpl : IntKind.wrap .i64 (p + l) = p + l := wrap64 (by omega) (by omega)
  refine sc_body hE.h46 rfl ?_
  show Ss E _ _ _ c46.body _ _ _
  unfold c46
  refine s_seq ?_
  refine s_ops ?_
  refine o_mov rfl rfl ?_
  refine o_nil ?_
  refine sSeq_normal ?_
  refine s_seq ?_
  refine s_ops ?_
  refine o_mov rfl rfl ?_
  refine o_mov rfl rfl ?_
  refine o_iad rfl rfl hi a1 rfl ?_
  refine o_ld_old rfl a2 (by simp) a3 rfl ?_
  refine o_mov rfl rfl ?_
  refine o_call0 (v := .tuple ⟨[I64 p, I64 l]⟩) rfl (ha2 rfl rfl) rfl (fun H1 _ => ?_) ?_
  · rw [hp, hl]; exact lead_spec hE t[i] named H1
  refine o_mov rfl rfl ?_
  refine o_ext rfl rfl rfl ?_
  refine o_ext rfl rfl rfl ?_
  refine o_mov rfl rfl ?_
  refine o_mov rfl rfl ?_
  refine o_nil ?_
  refine sSeq_normal ?_
  refine s_seq ?_
  refine s_seq ?_
  refine s_ops ?_
  refine o_mov rfl rfl ?_
  refine o_mov rfl rfl ?_
  refine o_iad rfl rfl hi a1 rfl ?_
  refine o_fad rfl rfl ?_
  refine o_ld1_old rfl a2 (by simp) (acc1 hi) rfl ?_
  refine o_bin rfl rfl rfl rfl ?_
  refine o_nil ?_
  refine sSeq_normal ?_
  refine s_cond rfl (fun hc0 => ?_) (fun hc0 => ?_)
  · skip
    refine s_seq ?_
    refine s_ops ?_
    refine o_mov rfl rfl ?_
    refine o_nil ?_
    refine sSeq_normal ?_
    refine s_ret ?_
    refine sSeq_ret ?_
    refine sRet_ret [_] ⟨rfl, trivial⟩ ?_
    show I64 _ = I64 _
    congr 1
    first | (rw [hgo, if_pos (by simpa using hc5)]) | (rw [hgo]; simp [hc7]) | (simp at hc0; simp [familyErr, hc0])
  · have hkn : t[i].kids ≠ 0 := by simpa using hc0
    refine s_skip ?_
    refine sSeq_normal ?_
    refine s_seq ?_
    refine s_ops ?_
    refine o_mov rfl rfl ?_
    refine o_nil ?_
    refine sSeq_normal ?_
    refine s_mid (α := Value × Ms) (fun z => [(0, .slice ob t.length cap), (1, .slice oe t.length ce), (2, I64 i), (9, I64 p), (10, I64 l), (11, z.1)]) (fun z => z.2) (fun z => MapIs p z.1 z.2 []) ?_ ?_
    · skip
      refine s_seq ?_
      refine s_ops ?_
      refine o_mov rfl rfl ?_
      refine o_bin rfl rfl rfl rfl ?_
      refine o_nil ?_
      refine sSeq_normal ?_
      refine s_cond rfl (fun hc1 => ?_) (fun hc1 => ?_)
      · skip
        refine s_ops ?_
        refine o_mkm rfl (fun b22 => ?_)
        refine o_mov rfl rfl ?_
        refine o_nil ?_
        first | exact sMid_normal (_, _) (subCons rfl (subCons rfl (subCons rfl (subCons rfl (subCons rfl (subCons rfl subNil)))))) (.refl _) (.inl ⟨by simpa using hc1, _, _, _, rfl, rfl, rfl⟩) | exact sMid_normal (_, _) (subCons rfl (subCons rfl (subCons rfl (subCons rfl (subCons rfl (subCons rfl subNil)))))) (.refl _) (.inr ⟨by simpa using hc1, rfl, rfl⟩)
      · skip
        refine s_skip ?_
        first | exact sMid_normal (_, _) (subCons rfl (subCons rfl (subCons rfl (subCons rfl (subCons rfl (subCons rfl subNil)))))) (.refl _) (.inl ⟨by simpa using hc1, _, _, _, rfl, rfl, rfl⟩) | exact sMid_normal (_, _) (subCons rfl (subCons rfl (subCons rfl (subCons rfl (subCons rfl (subCons rfl subNil)))))) (.refl _) (.inr ⟨by simpa using hc1, rfl, rfl⟩)
    · rintro ⟨mv, Mm⟩ hmap
      dsimp only
      refine s_seq ?_
      refine s_ops ?_
      refine o_mov rfl rfl ?_
      refine o_nil ?_
      refine sSeq_normal ?_
      refine s_seq ?_
      refine s_seq ?_
      refine s_ops ?_
      refine o_mov rfl rfl ?_
      refine o_mov rfl rfl ?_
      refine o_mov rfl rfl ?_
      refine o_call rfl (ha3 rfl rfl rfl) rfl (fun H1 hH1 => ⟨[], Mm, by simp, fun x hx => ⟨hx, by simp⟩, hH1.diff, (kids_spec hE ht hbig hi H1 _ oe ce (hse.mono hH1 (fun _ _ h => (by cases h)))).mono ?_⟩)
      rintro v M1 ⟨Mo, hO, hsub⟩
      refine So.weakM ?_ (hsub.append (.refl Mm))
      rcases hO with ⟨_, _, h0⟩ | ⟨bk, len, kc, sp, row, rfl, rfl, h1, h2, h3, _⟩
      · exfalso
        have := congrArg List.length h0
        simp [kidsL_length] at this
        omega
      have hlen : len = t[i].kids.toNat := by simpa [kidsL_length] using h1.symm
      subst hlen
      refine o_lnl rfl rfl ?_
      refine o_mov rfl rfl ?_
      refine o_nil ?_
      refine sSeq_normal ?_
      refine s_block ?_
      refine s_iter (α := Nat × Value × Ms × List Int × Bool) (fun z => t[i].kids.toNat - z.1) (fun z => [(0, .slice ob t.length cap), (2, I64 i), (9, I64 p), (10, I64 l), (11, z.2.1), (12, .bool z.2.2.2.2), (37, .slice (some ⟨bk, 0, some sp⟩) t[i].kids.toNat kc), (38, I64 (t[i].kids.toNat : Nat)), (39, I64 z.1)]) (fun z => (bk, .row row true) :: z.2.2.1)
        (fun z => z.1 ≤ t[i].kids.toNat ∧ MapIs p z.2.1 z.2.2.1 z.2.2.2.1 ∧ familyErr t t[i] i named = famGo t t[i] p l ((kidsA t i t[i].kids.toNat).drop z.1) z.1 z.2.2.2.1 z.2.2.2.2)
        (0, mv, Mm, [], false) (subCons rfl (subCons rfl (subCons rfl (subCons rfl (subCons rfl (subCons rfl (subCons rfl (subCons rfl (subCons rfl subNil))))))))) (.refl _) ⟨Nat.zero_le _, hmap, by simp [familyErr, hkn, hp, hl]⟩ ?_
      rintro ⟨k, mv, Mm, seen, tw⟩ ⟨hk, hmap, hgo⟩
      dsimp only at hk hmap hgo ⊢
      refine s_seq ?_
      refine s_ops ?_
      refine o_bin rfl rfl rfl rfl ?_
      refine o_nil ?_
      refine sSeq_normal ?_
      refine s_seq ?_
      refine s_cond rfl (fun hc2 => ?_) (fun hc2 => ?_)
      · have hk2 : k < t[i].kids.toNat := by simp at hc2; omega
        obtain ⟨q1, q2, q3, q4, q5⟩ := ht.kid hi hk2
        obtain ⟨c1, c2, c3⟩ := acc q2
        rw [kidsA_drop _ _ _ _ hk2] at hgo
        simp only [famGo, List.getElem?_eq_getElem q2] at hgo
        have hrow : row[0 + k * 1]? = some (I64 (i + 1 + kidsN t i k : Nat)) := by
          rw [← kidsL_at t i t[i].kids.toNat k hk2, ← h2, List.getElem?_take]
          simp [hk2]
        obtain ⟨yy, hyy⟩ : ∃ yy, yy = t[i + 1 + kidsN t i k] := ⟨_, rfl⟩
        rw [← hyy] at c3 hgo
        refine s_skip ?_
        refine sSeq_normal ?_
        refine s_seq ?_
        refine s_block ?_
        refine s_seq ?_
        refine s_ops ?_
        refine o_mov rfl rfl ?_
        refine o_iad rfl rfl hk2 rfl rfl ?_
        refine o_ld1 rfl (.head _) hrow rfl ?_
        refine o_mov rfl rfl ?_
        refine o_mov rfl rfl ?_
        refine o_nil ?_
        refine sSeq_normal ?_
        refine s_seq ?_
        refine s_ops ?_
        refine o_mov rfl rfl ?_
        refine o_mov rfl rfl ?_
        refine o_iad rfl rfl q2 c1 rfl ?_
        refine o_ld_old rfl c2 (by simp) c3 rfl ?_
        refine o_newz rfl (fun b41 => ?_)
        refine o_stN (M1 := []) (cn := yy.cells) rfl rfl rfl rfl (by show 0 + 6 ≤ 6; exact Nat.le_refl _) rfl rfl ?_
        refine o_nil ?_
        refine sSeq_normal ?_
        refine s_block ?_
        refine s_mid (α := Unit) (fun _ => [(0, .slice ob t.length cap), (2, I64 i), (9, I64 p), (10, I64 l), (11, mv), (12, .bool tw), (13, I64 k), (15, .pointer (some ⟨b41, 0, none⟩)), (37, .slice (some ⟨bk, 0, some sp⟩) t[i].kids.toNat kc), (38, I64 (t[i].kids.toNat : Nat)), (39, I64 k), (48, .bool (kidBad t[i] yy k p l))]) (fun _ => (b41, .row yy.cells true) :: (bk, .row row true) :: Mm) (fun _ => True) ?_ ?_
        · skip
          refine s_seq ?_
          refine s_ops ?_
          refine o_fad rfl rfl ?_
          refine o_ld1 rfl (by first | exact .head _ | exact .tail _ (.head _) | exact .tail _ (.tail _ (.head _)) | exact .tail _ (.tail _ (.tail _ (.head _))) | exact .tail _ (.tail _ (.tail _ (.tail _ (.head _))))) rfl rfl ?_
          refine o_bin rfl rfl rfl rfl ?_
          refine o_mov rfl rfl ?_
          refine o_mov rfl rfl ?_
          refine o_bin rfl rfl rfl rfl ?_
          refine o_eqb rfl rfl rfl ?_
          refine o_mov rfl rfl ?_
          refine o_nil ?_
          refine sSeq_normal ?_
          refine s_cond rfl (fun hc3 => ?_) (fun hc3 => ?_)
          · skip
            refine s_skip ?_
            exact sMid_normal () (subCons rfl (subCons rfl (subCons rfl (subCons rfl (subCons rfl (subCons rfl (subCons rfl (subCons rfl (subCons rfl (subCons rfl (subCons rfl (subEq rfl (by
                refine congrArg Value.bool ?_
                unfold kidBad
                clear hgo
                try simp only [bne] at hc3
                try simp only [bne] at hc4
                simp only [bne]
                generalize (yy.kind == 12) = a at *
                generalize (yy.kind == 8) = e at *
                generalize (t[i].kind == 5) = f at *
                generalize isValue yy.kind = g at *
                generalize decide ((k : Int) < p) = b at *
                generalize decide ((k : Int) ≥ p) = c at *
                generalize decide ((k : Int) < p + l) = d at *
                first
                  | (revert hc3 hc4; revert a b c d e f g; decide)
                  | (revert hc3; revert a b c d e f g; decide)) subNil)))))))))))) (.refl _) trivial
          · skip
            refine s_seq ?_
            refine s_ops ?_
            refine o_mov rfl rfl ?_
            refine o_mov rfl rfl ?_
            refine o_bin rfl rfl rfl rfl ?_
            refine o_mov rfl rfl ?_
            refine g_mov (by first | exact wanted_b rfl | exact wanted_g rfl) (by first | exact evG rfl | exact evG2 rfl | exact evG3 rfl | exact fun _ => rfl) rfl ?_
            refine g_mov (by first | exact wanted_b rfl | exact wanted_g rfl) (by first | exact evG rfl | exact evG2 rfl | exact evG3 rfl | exact fun _ => rfl) rfl ?_
            refine g_mov (by first | exact wanted_b rfl | exact wanted_g rfl) (by first | exact evG rfl | exact evG2 rfl | exact evG3 rfl | exact fun _ => rfl) rfl ?_
            refine g_bin (v := I64 (p + l)) (by first | exact wanted_b rfl | exact wanted_g rfl) (by first | exact evG rfl | exact evG2 rfl | exact evG3 rfl | exact fun _ => rfl) (by first | exact evG rfl | exact evG2 rfl | exact evG3 rfl | exact fun _ => rfl) (fun _ => by simp only [binV, binInt, if_true]; rw [hpl]) rfl ?_
            refine g_bin (by first | exact wanted_b rfl | exact wanted_g rfl) (by first | exact evG rfl | exact evG2 rfl | exact evG3 rfl | exact fun _ => rfl) (by first | exact evG rfl | exact evG2 rfl | exact evG3 rfl | exact fun _ => rfl) (fun _ => rfl) rfl ?_
            refine o_pickB rfl (by first | exact fun h => evG rfl (by rw [h]; rfl) | exact fun _ => rfl) (by first | exact fun h => evG rfl (by rw [h]; rfl) | exact fun _ => rfl) rfl ?_
            refine o_mov rfl rfl ?_
            refine g_fad (by first | exact wanted_b rfl | exact wanted_g rfl) (by first | exact evG rfl | exact evG2 rfl | exact evG3 rfl | exact fun _ => rfl) rfl ?_
            refine g_ld1 (by first | exact wanted_b rfl | exact wanted_g rfl) (by first | exact evG rfl | exact evG2 rfl | exact evG3 rfl | exact fun _ => rfl) (by first | exact .head _ | exact .tail _ (.head _) | exact .tail _ (.tail _ (.head _)) | exact .tail _ (.tail _ (.tail _ (.head _))) | exact .tail _ (.tail _ (.tail _ (.tail _ (.head _))))) rfl rfl ?_
            refine g_bin (by first | exact wanted_b rfl | exact wanted_g rfl) (by first | exact evG rfl | exact evG2 rfl | exact evG3 rfl | exact fun _ => rfl) (by first | exact evG rfl | exact evG2 rfl | exact evG3 rfl | exact fun _ => rfl) (fun _ => rfl) rfl ?_
            refine o_pickB rfl (by first | exact fun h => evG rfl (by rw [h]; rfl) | exact fun _ => rfl) (by first | exact fun h => evG rfl (by rw [h]; rfl) | exact fun _ => rfl) rfl ?_
            refine o_mov rfl rfl ?_
            refine o_nil ?_
            refine sSeq_normal ?_
            refine s_cond rfl (fun hc4 => ?_) (fun hc4 => ?_)
            · skip
              refine s_skip ?_
              exact sMid_normal () (subCons rfl (subCons rfl (subCons rfl (subCons rfl (subCons rfl (subCons rfl (subCons rfl (subCons rfl (subCons rfl (subCons rfl (subCons rfl (subEq rfl (by
                  refine congrArg Value.bool ?_
                  unfold kidBad
                  clear hgo
                  try simp only [bne] at hc3
                  try simp only [bne] at hc4
                  simp only [bne]
                  generalize (yy.kind == 12) = a at *
                  generalize (yy.kind == 8) = e at *
                  generalize (t[i].kind == 5) = f at *
                  generalize isValue yy.kind = g at *
                  generalize decide ((k : Int) < p) = b at *
                  generalize decide ((k : Int) ≥ p) = c at *
                  generalize decide ((k : Int) < p + l) = d at *
                  first
                    | (revert hc3 hc4; revert a b c d e f g; decide)
                    | (revert hc3; revert a b c d e f g; decide)) subNil)))))))))))) (.refl _) trivial
            · skip
              refine s_ops ?_
              refine o_mov rfl rfl ?_
              refine o_mov rfl rfl ?_
              refine o_iad rfl rfl hi a1 rfl ?_
              refine o_fad rfl rfl ?_
              refine o_ld1_old rfl a2 (by simp) (accK hi) rfl ?_
              refine o_bin rfl rfl rfl rfl ?_
              refine o_mov rfl rfl ?_
              refine g_fad (by first | exact wanted_b rfl | exact wanted_g rfl) (by first | exact evG rfl | exact evG2 rfl | exact evG3 rfl | exact fun _ => rfl) rfl ?_
              refine g_ld1 (by first | exact wanted_b rfl | exact wanted_g rfl) (by first | exact evG rfl | exact evG2 rfl | exact evG3 rfl | exact fun _ => rfl) (by first | exact .head _ | exact .tail _ (.head _) | exact .tail _ (.tail _ (.head _)) | exact .tail _ (.tail _ (.tail _ (.head _))) | exact .tail _ (.tail _ (.tail _ (.tail _ (.head _))))) rfl rfl ?_
              refine g_call0 (by first | exact wanted_b rfl | exact wanted_g rfl) rfl (fun hw => ha1 (evG rfl hw)) rfl (fun _ H1 _ => value_spec hE yy.kind H1) ?_
              refine g_not (by first | exact wanted_b rfl | exact wanted_g rfl) (by first | exact evG rfl | exact evG2 rfl | exact evG3 rfl | exact fun _ => rfl) rfl ?_
              refine o_pickB rfl (by first | exact fun h => evG rfl (by rw [h]; rfl) | exact fun _ => rfl) (by first | exact fun h => evG rfl (by rw [h]; rfl) | exact fun _ => rfl) rfl ?_
              refine o_mov rfl rfl ?_
              refine o_nil ?_
              exact sMid_normal () (subCons rfl (subCons rfl (subCons rfl (subCons rfl (subCons rfl (subCons rfl (subCons rfl (subCons rfl (subCons rfl (subCons rfl (subCons rfl (subEq rfl (by
                  refine congrArg Value.bool ?_
                  unfold kidBad
                  clear hgo
                  try simp only [bne] at hc3
                  try simp only [bne] at hc4
                  simp only [bne]
                  generalize (yy.kind == 12) = a at *
                  generalize (yy.kind == 8) = e at *
                  generalize (t[i].kind == 5) = f at *
                  generalize isValue yy.kind = g at *
                  generalize decide ((k : Int) < p) = b at *
                  generalize decide ((k : Int) ≥ p) = c at *
                  generalize decide ((k : Int) < p + l) = d at *
                  first
                    | (revert hc3 hc4; revert a b c d e f g; decide)
                    | (revert hc3; revert a b c d e f g; decide)) subNil)))))))))))) (.refl _) trivial
        · rintro _ _
          refine s_cond rfl (fun hc5 => ?_) (fun hc5 => ?_)
          · skip
            refine s_seq ?_
            refine s_ops ?_
            refine o_mov rfl rfl ?_
            refine o_nil ?_
            refine sSeq_normal ?_
            refine s_ret ?_
            refine sBlock_ret ?_
            refine sBlock_ret ?_
            refine sSeq_ret ?_
            refine sIter_ret ?_
            refine sBlock_ret ?_
            refine sSeq_ret ?_
            refine sRet_ret [_] ⟨rfl, trivial⟩ ?_
            show I64 _ = I64 _
            congr 1
            first | (rw [hgo, if_pos (by simpa using hc5)]) | (rw [hgo]; simp [hc7]) | (simp at hc0; simp [familyErr, hc0])
          · skip
            refine s_seq ?_
            refine s_ops ?_
            refine o_mov rfl rfl ?_
            refine o_mov rfl rfl ?_
            refine o_bin rfl rfl rfl rfl ?_
            refine o_mov rfl rfl ?_
            refine o_nil ?_
            refine sSeq_normal ?_
            refine s_cond rfl (fun hc6 => ?_) (fun hc6 => ?_)
            · have hkp : (k : Int) < p := by simpa using hc6
              obtain ⟨hpp, bm, es, clock, rfl, rfl, hset⟩ : p > 0 ∧ ∃ bm es clock, mv = .map (some bm) ∧ Mm = [(bm, .map es clock)] ∧ IntSet es seen := by
                rcases hmap with h | ⟨hno, _⟩
                · exact h
                · exfalso; omega
              refine s_seq ?_
              refine s_ops ?_
              refine o_mov rfl rfl ?_
              refine o_mov rfl rfl ?_
              refine g_mov (by first | exact wanted_b rfl | exact wanted_g rfl) (by first | exact evG rfl | exact evG2 rfl | exact evG3 rfl | exact fun _ => rfl) rfl ?_
              refine g_fad (by first | exact wanted_b rfl | exact wanted_g rfl) (by first | exact evG rfl | exact evG2 rfl | exact evG3 rfl | exact fun _ => rfl) rfl ?_
              refine g_ld1 (by first | exact wanted_b rfl | exact wanted_g rfl) (by first | exact evG rfl | exact evG2 rfl | exact evG3 rfl | exact fun _ => rfl) (by first | exact .head _ | exact .tail _ (.head _) | exact .tail _ (.tail _ (.head _)) | exact .tail _ (.tail _ (.tail _ (.head _))) | exact .tail _ (.tail _ (.tail _ (.tail _ (.head _))))) rfl rfl ?_
              refine g_lkp (clock := clock) (es := es) (seen := seen) (z := yy.n) (by first | exact wanted_b rfl | exact wanted_g rfl) (by first | exact evG rfl | exact evG2 rfl | exact evG3 rfl | exact fun _ => rfl) (by first | exact evG rfl | exact evG2 rfl | exact evG3 rfl | exact fun _ => rfl) (.tail _ (.tail _ (.head _))) hset rfl ?_
              refine o_pickB rfl (by first | exact fun h => evG rfl (by rw [h]; rfl) | exact fun _ => rfl) (by first | exact fun h => evG rfl (by rw [h]; rfl) | exact fun _ => rfl) rfl ?_
              refine o_mov rfl rfl ?_
              refine o_nil ?_
              refine sSeq_normal ?_
              refine s_ops ?_
              refine o_mov rfl rfl ?_
              refine o_fad rfl rfl ?_
              refine o_ld1 rfl (by first | exact .head _ | exact .tail _ (.head _) | exact .tail _ (.tail _ (.head _)) | exact .tail _ (.tail _ (.tail _ (.head _))) | exact .tail _ (.tail _ (.tail _ (.tail _ (.head _))))) rfl rfl ?_
              refine o_mupN (M1 := [(b41, .row yy.cells true), (bk, .row row true)]) (M2 := []) rfl rfl rfl rfl hset (fun es2 clock2 hset2 => ?_)
              refine o_nil ?_
              refine sBlock_normal ?_
              refine sBlock_normal ?_
              refine sSeq_normal ?_
              refine s_ops ?_
              refine o_bin (v := I64 (k + 1 : Nat)) rfl rfl (by simp only [binV, binInt, if_true]; rw [wrap64 (by omega) (by omega)]; rfl) rfl ?_
              refine o_mov rfl rfl ?_
              refine o_nil ?_
              first | exact sIter_next (k + 1, .map (some bm), [(bm, .map es2 clock2)], (if yy.n ∈ seen then seen else seen ++ [yy.n]), cond tw true (seen.contains yy.n)) (by dsimp only; omega) (subCons rfl (subCons rfl (subCons rfl (subCons rfl (subCons rfl (subCons rfl (subCons rfl (subCons rfl (subCons rfl subNil))))))))) (.cons _ (.refl _)) ⟨hk2, .inl ⟨hpp, bm, es2, clock2, rfl, rfl, hset2⟩, by dsimp only; rw [hgo, if_neg (by simpa using hc5), if_pos hkp]; cases tw <;> rfl⟩ | exact sIter_next (k + 1, mv, Mm, seen, tw) (by dsimp only; omega) (subCons rfl (subCons rfl (subCons rfl (subCons rfl (subCons rfl (subCons rfl (subCons rfl (subCons rfl (subCons rfl subNil))))))))) (.cons _ (.refl _)) ⟨hk2, hmap, by dsimp only; rw [hgo, if_neg (by simpa using hc5), if_neg hkp]⟩
            · have hkp : ¬ (k : Int) < p := by simpa using hc6
              refine s_skip ?_
              refine sBlock_normal ?_
              refine sBlock_normal ?_
              refine sSeq_normal ?_
              refine s_ops ?_
              refine o_bin (v := I64 (k + 1 : Nat)) rfl rfl (by simp only [binV, binInt, if_true]; rw [wrap64 (by omega) (by omega)]; rfl) rfl ?_
              refine o_mov rfl rfl ?_
              refine o_nil ?_
              first | exact sIter_next (k + 1, .map (some bm), [(bm, .map es2 clock2)], (if yy.n ∈ seen then seen else seen ++ [yy.n]), cond tw true (seen.contains yy.n)) (by dsimp only; omega) (subCons rfl (subCons rfl (subCons rfl (subCons rfl (subCons rfl (subCons rfl (subCons rfl (subCons rfl (subCons rfl subNil))))))))) (.cons _ (.refl _)) ⟨hk2, .inl ⟨hpp, bm, es2, clock2, rfl, rfl, hset2⟩, by dsimp only; rw [hgo, if_neg (by simpa using hc5), if_pos hkp]; cases tw <;> rfl⟩ | exact sIter_next (k + 1, mv, Mm, seen, tw) (by dsimp only; omega) (subCons rfl (subCons rfl (subCons rfl (subCons rfl (subCons rfl (subCons rfl (subCons rfl (subCons rfl (subCons rfl subNil))))))))) (.cons _ (.refl _)) ⟨hk2, hmap, by dsimp only; rw [hgo, if_neg (by simpa using hc5), if_neg hkp]⟩
      · have hk2 : k = t[i].kids.toNat := by simp at hc2; omega
        subst hk2
        rw [List.drop_of_length_le (by simp [kidsA])] at hgo
        simp only [famGo] at hgo
        refine s_exit ?_
        refine sSeq_exit ?_
        refine sIter_exit ?_
        refine sBlock_exit ?_
        refine sSeq_normal ?_
        refine s_seq ?_
        refine s_seq ?_
        refine s_ops ?_
        refine o_mov rfl rfl ?_
        refine o_nil ?_
        refine sSeq_normal ?_
        refine s_cond rfl (fun hc7 => ?_) (fun hc7 => ?_)
        · skip
          refine s_seq ?_
          refine s_ops ?_
          refine o_mov rfl rfl ?_
          refine o_nil ?_
          refine sSeq_normal ?_
          refine s_ret ?_
          refine sSeq_ret ?_
          refine sRet_ret [_] ⟨rfl, trivial⟩ ?_
          show I64 _ = I64 _
          congr 1
          first | (rw [hgo, if_pos (by simpa using hc5)]) | (rw [hgo]; simp [hc7]) | (simp at hc0; simp [familyErr, hc0])
        · skip
          refine s_skip ?_
          refine sSeq_normal ?_
          refine s_seq ?_
          refine s_ops ?_
          refine o_mov rfl rfl ?_
          refine o_nil ?_
          refine sSeq_normal ?_
          refine s_ret ?_
          refine sRet_ret [_] ⟨rfl, trivial⟩ ?_
          show I64 _ = I64 _
          congr 1
          first | (rw [hgo, if_pos (by simpa using hc5)]) | (rw [hgo]; simp [hc7]) | (simp at hc0; simp [familyErr, hc0])

end Go.Proofs.YtfonnebpnobomaaDoor.W
namespace Go.Proofs.YtfonnebpnobomaaDoor.W
open Go Am code
set_option maxRecDepth 100000
set_option maxHeartbeats 4000000
set_option linter.unusedSimpArgs false
set_option linter.unusedVariables false

variable (symB : ByteArray → Bool)
def popZ : List Int → List Int
  | [] => []
  | z :: r => if z = 0 then popZ r else z :: r
def kindBad (x : Node) : Bool := decide (x.kind < 1) || decide (x.kind > 12) || decide (x.kids < 0)
def chkGo (named : Bool) : List Node → Nat → List Int → (Nat × Int) ⊕ List Int
  | [], _, st => .inr st
  | x :: t, i, st =>
    match popZ st with
    | [] => .inl (i, 6)
    | z :: r => if kindBad x then .inl (i, 6) else if r.length + 1 > 201 then .inl (i, 3) else if fieldsBad x then .inl (i, 6) else if numbersErr symB x named ≠ 0 then .inl (i, numbersErr symB x named) else chkGo named t (i + 1) (x.kids :: (z - 1) :: r)
/-- the first node whose children are wrong -/
def famFirst (t : List Node) (named : Bool) : Nat → Nat → Nat × Int
  | 0, _ => (0, 0)
  | k + 1, i =>
    match t[i]? with
    | none => (0, 0)
    | some x => if familyErr t x i named ≠ 0 then (i, familyErr t x i named) else famFirst t named k (i + 1)
/-- what core.Check says -/
def check (t : List Node) (named : Bool) : Nat × Int :=
  if t.length = 0 then (0, 6) else if t.length > 2000 then (0, 3) else
  match chkGo symB named t 0 [1] with
  | .inl r => r
  | .inr st => if maxL st.reverse > 0 then (t.length, 6) else if (t[0]?.map Node.kind) = some 12 then (0, 6) else famFirst t named t.length 0

theorem popZ_nonneg {st : List Int} (h : ∀ z ∈ st, 0 ≤ z) : ∀ z ∈ popZ st, 0 ≤ z := by
  induction st with
  | nil => exact h
  | cons a st ih =>
    simp only [popZ]
    split
    · exact ih fun z hz => h z (by simp [hz])
    · exact h
theorem popZ_sum (st : List Int) : (popZ st).sum = st.sum := by
  induction st with
  | nil => rfl
  | cons a st ih =>
    simp only [popZ]
    split
    · rename_i e; rw [ih, List.sum_cons, e]; omega
    · rfl
theorem popZ_len (st : List Int) : (popZ st).length ≤ st.length := by
  induction st with
  | nil => exact Nat.le_refl _
  | cons a st ih =>
    simp only [popZ]
    split
    · simp only [List.length_cons]; omega
    · exact Nat.le_refl _
theorem popZ_cons {st : List Int} {z : Int} {r : List Int} (h : popZ st = z :: r) : z ≠ 0 ∧ z ∈ st := by
  induction st with
  | nil => cases h
  | cons a st ih =>
    simp only [popZ] at h
    split at h
    · have := ih h; exact ⟨this.1, by simp [this.2]⟩
    · cases h; exact ⟨by assumption, by simp⟩
/-- what is still missing behind a part of a term -/
def run : List Node → Nat → Option Nat
  | [], k => some k
  | _ :: _, 0 => none
  | x :: t, k + 1 => run t (k + x.kids.toNat)
theorem run_whole : ∀ {t : List Node} {k : Nat}, run t k = some 0 → skipN t k = some t.length := by
  intro t
  induction t with
  | nil => intro k h; simp only [run, Option.some.injEq] at h; subst h; rfl
  | cons x t ih => intro k h; cases k with
    | zero => cases h
    | succ k =>
      simp only [run] at h
      simp only [skipN, ih h, Option.map_some, List.length_cons]
theorem sum_nonneg {st : List Int} (h : ∀ z ∈ st, 0 ≤ z) : 0 ≤ st.sum := by
  induction st with
  | nil => exact Int.le_refl _
  | cons a st ih =>
    have h1 := h a (by simp)
    have h2 := ih fun z hz => h z (by simp [hz])
    rw [List.sum_cons]; omega
theorem chkGo_run (named : Bool) : ∀ (t : List Node) (i : Nat) (st st' : List Int), (∀ z ∈ st, 0 ≤ z) → chkGo symB named t i st = .inr st' →
    run t st.sum.toNat = some st'.sum.toNat ∧ (∀ z ∈ st', 0 ≤ z) ∧ (∀ x ∈ t, 0 ≤ x.kids ∧ rangeBad x = false) := by
  intro t
  induction t with
  | nil => intro i st st' h1 h2; simp only [chkGo, Sum.inr.injEq] at h2; subst h2; exact ⟨rfl, h1, by simp⟩
  | cons x t ih =>
    intro i st st' h1 h2
    have hp := popZ_nonneg h1
    have hs := popZ_sum st
    simp only [chkGo] at h2
    split at h2
    · cases h2
    · rename_i z r hzr
      rw [hzr] at hp hs
      have hz0 := (popZ_cons hzr).1
      have hz1 := hp z (by simp)
      have hr := sum_nonneg (st := r) fun z hz => hp z (by simp [hz])
      split at h2
      · cases h2
      · rename_i hkb
        split at h2
        · cases h2
        · split at h2
          · cases h2
          · split at h2
            · cases h2
            · rename_i hnum
              have hk : 0 ≤ x.kids := by
                simp [kindBad] at hkb; omega
              have hrb : rangeBad x = false := by
                cases e : rangeBad x with
                | false => rfl
                | true => exfalso; apply hnum; intro h; simp [numbersErr, e] at h
              obtain ⟨g1, g2, g3⟩ := ih (i + 1) _ st' (by
                intro y hy
                simp only [List.mem_cons] at hy
                rcases hy with rfl | rfl | hy
                · exact hk
                · omega
                · exact hp y (by simp [hy])) h2
              refine ⟨?_, g2, ?_⟩
              · rw [← g1, ← hs]
                simp only [List.sum_cons] at hs ⊢
                obtain ⟨m, hm⟩ : ∃ m : Nat, (z + r.sum).toNat = m + 1 := ⟨(z + r.sum).toNat - 1, by omega⟩
                rw [hm]
                simp only [run]
                congr 1
                omega
              · intro y hy
                rcases List.mem_cons.1 hy with rfl | hy
                · exact ⟨hk, hrb⟩
                · exact g3 y hy
theorem maxL_ge : ∀ (l : List Int) (z : Int), z ∈ l → z ≤ maxL l := by
  have key : ∀ (l : List Int) (a : Int), a ≤ l.foldl (fun a b => if b > a then b else a) a ∧ ∀ z ∈ l, z ≤ l.foldl (fun a b => if b > a then b else a) a := by
    intro l
    induction l with
    | nil => intro a; exact ⟨Int.le_refl _, by simp⟩
    | cons b l ih =>
      intro a
      simp only [List.foldl_cons]
      by_cases hb : b > a
      · rw [if_pos hb]
        obtain ⟨h1, h2⟩ := ih b
        exact ⟨by omega, fun z hz => by rcases List.mem_cons.1 hz with rfl | hz; exact h1; exact h2 z hz⟩
      · rw [if_neg hb]
        obtain ⟨h1, h2⟩ := ih a
        exact ⟨h1, fun z hz => by rcases List.mem_cons.1 hz with rfl | hz; omega; exact h2 z hz⟩
  intro l z hz
  cases l with
  | nil => cases hz
  | cons a l =>
    obtain ⟨h1, h2⟩ := key l a
    rcases List.mem_cons.1 hz with rfl | hz
    · exact h1
    · exact h2 z hz
theorem sum_zero {st : List Int} (h : ∀ z ∈ st, 0 ≤ z) (h2 : ∀ z ∈ st, z ≤ 0) : st.sum = 0 := by
  induction st with
  | nil => rfl
  | cons a st ih =>
    have h3 := h a (by simp)
    have h4 := h2 a (by simp)
    rw [List.sum_cons, ih (fun z hz => h z (by simp [hz])) (fun z hz => h2 z (by simp [hz]))]; omega
/-- a term that comes so far is whole -/
theorem chk_whole (named : Bool) {t : List Node} {st : List Int} (h : chkGo symB named t 0 [1] = .inr st) (hm : ¬ maxL st.reverse > 0) : Whole t ∧ (∀ x ∈ t, 0 ≤ x.kids) ∧ ∀ x ∈ t, rangeBad x = false := by
  obtain ⟨h1, h2, h3⟩ := chkGo_run symB named t 0 [1] st (by simp) h
  have h4 : st.sum = 0 := sum_zero h2 fun z hz => by have := maxL_ge st.reverse z (by simpa using hz); omega
  rw [h4] at h1
  exact ⟨run_whole h1, fun x hx => (h3 x hx).1, fun x hx => (h3 x hx).2⟩

end Go.Proofs.YtfonnebpnobomaaDoor.W
namespace Go.Proofs.YtfonnebpnobomaaDoor.W
open Go Am code
set_option maxRecDepth 100000
set_option maxHeartbeats 4000000
set_option linter.unusedSimpArgs false
set_option linter.unusedVariables false
variable {E : Env} (hE : Has E)
variable (symB : ByteArray → Bool)

structure StackIs (st : List Int) (cap sp : Nat) (row : List Value) : Prop where
  take : row.take st.length = st.reverse.map I64
  le : st.length ≤ row.length
  alt : (sp = 0 ∧ cap = st.length ∧ st = [1]) ∨ (sp = 2 ∧ 0 < cap ∧ st.length ≤ cap)
theorem StackIs.top {st : List Int} {cap sp : Nat} {row : List Value} (h : StackIs st cap sp row) (h0 : 0 < st.length) : row[0 + (st.length - 1) * 1]? = some (I64 (st.headD 0)) := by
  cases st with
  | nil => cases h0
  | cons z r =>
    have h1 : (row.take (z :: r).length)[r.length]? = ((z :: r).reverse.map I64)[r.length]? := by rw [h.take]
    rw [List.getElem?_take, if_pos (by simp)] at h1
    simp only [List.length_cons, Nat.add_sub_cancel, Nat.mul_one, Nat.zero_add, List.headD_cons]
    rw [h1]
    simp
theorem StackIs.pop {r : List Int} {cap sp : Nat} {row : List Value} (h : StackIs (0 :: r) cap sp row) : StackIs r cap sp row ∧ sp = 2 ∧ r.length ≤ cap := by
  rcases h.alt with ⟨_, _, h1⟩ | ⟨h1, h2, h3⟩
  · simp at h1
  · refine ⟨⟨?_, ?_, .inr ⟨h1, h2, ?_⟩⟩, h1, ?_⟩
    · have h4 : (row.take (0 :: r).length).take r.length = (((0 : Int) :: r).reverse.map I64).take r.length := by rw [h.take]
      rw [List.take_take, Nat.min_eq_left (by simp)] at h4
      rw [h4, List.reverse_cons, List.map_append, List.take_append_of_le_length (by simp)]
      exact List.take_of_length_le (by simp)
    · have := h.le; simp at this; omega
    · simp at h3; omega
    · simp at h3; omega
theorem StackIs.set {z : Int} {r : List Int} {cap sp : Nat} {row : List Value} (h : StackIs (z :: r) cap sp row) : (row.set r.length (I64 (z - 1))).take ((r.length + 1) * 1) = ((z - 1) :: r).reverse.map I64 := by
  have h1 := h.take
  simp only [List.length_cons] at h1
  rw [Nat.mul_one, List.take_set, h1]
  simp
theorem chkGo_step (named : Bool) {t : List Node} {i : Nat} (hi : i < t.length) {st : List Int} : chkGo symB named (t.drop i) i st = match popZ st with
    | [] => .inl (i, 6)
    | z :: r => if kindBad t[i] then .inl (i, 6) else if r.length + 1 > 201 then .inl (i, 3) else if fieldsBad t[i] then .inl (i, 6) else if numbersErr symB t[i] named ≠ 0 then .inl (i, numbersErr symB t[i] named) else chkGo symB named (t.drop (i + 1)) (i + 1) (t[i].kids :: (z - 1) :: r) := by
  rw [drop_cons hi]; rfl
theorem check_inl (named : Bool) {t : List Node} {r : Nat × Int} (h0 : ¬ t.length = 0) (h1 : ¬ t.length > 2000) (h : chkGo symB named t 0 [1] = .inl r) : check symB t named = r := by
  unfold check; rw [if_neg h0, if_neg h1, h]
theorem famFirst_step {t : List Node} {named : Bool} {i k : Nat} (hi : i < t.length) : famFirst t named (k + 1) i = if familyErr t t[i] i named ≠ 0 then (i, familyErr t t[i] i named) else famFirst t named k (i + 1) := by
  simp only [famFirst, List.getElem?_eq_getElem hi]

include hE in
theorem check_spec {t : List Node} (hw : ∀ x ∈ t, x.kids ≤ 9223372036854775807) (hcap : t.length ≤ 9223372036854775807) (named : Bool) (H : Hp) (hsym : SymsOK E symB t H) (ob : Option Addr) (cap : Nat) (hsl : SlE H 6 ob (t.map Node.cells)) :
    Sc E 24 [.slice ob t.length cap, .bool named] H [] fun v _ => v = .tuple ⟨[I64 ((check symB t named).1 : Nat), I64 (check symB t named).2]⟩ := by
  have acc : ∀ {j : Nat} (hj : j < t.length), ob.isSome = true ∧ (adr ob 6 j).block < H.size ∧ H.cells? (adr ob 6 j) 6 = some t[j].cells := fun {j} hj => by
    have := hsl.get (i := j) (by simpa using hj)
    simpa using this
  have accK : ∀ {j : Nat} (hj : j < t.length), H.cell? ⟨(adr ob 6 j).block, (adr ob 6 j).off + 0, none⟩ = some (I64 t[j].kind) := fun {j} hj => hsl.cell (i := j) (j := 0) (by simpa using hj) (by simp [Node.cells])
  refine sc_body hE.h24 rfl ?_
  show Ss E _ _ _ c24.body _ _ _
  unfold c24
  refine s_seq ?_
  refine s_ops ?_
  refine o_mov rfl rfl ?_
  refine o_mov rfl rfl ?_
  refine o_nil ?_
  refine sSeq_normal ?_
  refine s_seq ?_
  refine s_block ?_
  refine s_seq ?_
  refine s_ops ?_
  refine o_mov rfl rfl ?_
  refine o_lnl rfl rfl ?_
  refine o_bin rfl rfl rfl rfl ?_
  refine o_mov rfl rfl ?_
  refine o_nil ?_
  refine sSeq_normal ?_
  refine s_cond rfl (fun hc0 => ?_) (fun hc0 => ?_)
  · have hres : check symB t named = (0, 6) := by
      have h0 : t.length = 0 := by simpa using hc0
      unfold check; rw [if_pos h0]
    refine s_seq ?_
    refine s_ops ?_
    refine o_mov rfl rfl ?_
    refine o_mov rfl rfl ?_
    refine o_nil ?_
    refine sSeq_normal ?_
    refine s_ret ?_
    refine sBlock_ret ?_
    refine sSeq_ret ?_
    refine sRet_ret [_, _] ⟨rfl, rfl, trivial⟩ ?_
    show Value.tuple ⟨[_, _]⟩ = _
    rw [hres]
    first | rfl | done
  · have h0 : ¬ t.length = 0 := by simpa using hc0
    refine s_seq ?_
    refine s_ops ?_
    refine o_mov rfl rfl ?_
    refine o_lnl rfl rfl ?_
    refine o_bin rfl rfl rfl rfl ?_
    refine o_mov rfl rfl ?_
    refine o_nil ?_
    refine sSeq_normal ?_
    refine s_cond rfl (fun hc1 => ?_) (fun hc1 => ?_)
    · have hres : check symB t named = (0, 3) := by
        have h1 : t.length > 2000 := by simp at hc1; omega
        unfold check; rw [if_neg h0, if_pos h1]
      refine s_seq ?_
      refine s_ops ?_
      refine o_mov rfl rfl ?_
      refine o_mov rfl rfl ?_
      refine o_nil ?_
      refine sSeq_normal ?_
      refine s_ret ?_
      refine sBlock_ret ?_
      refine sSeq_ret ?_
      refine sRet_ret [_, _] ⟨rfl, rfl, trivial⟩ ?_
      show Value.tuple ⟨[_, _]⟩ = _
      rw [hres]
      first | rfl | done
    · have h1 : ¬ t.length > 2000 := by simp at hc1; omega
      refine s_skip ?_
      refine sBlock_normal ?_
      refine sSeq_normal ?_
      refine s_seq ?_
      refine s_ops ?_
      refine o_lits (c := [I64 1]) (fun F hF => rfl) rfl (fun b14 => ?_)
      refine o_mov rfl rfl ?_
      refine o_nil ?_
      refine sSeq_normal ?_
      refine s_seq ?_
      refine s_seq ?_
      refine s_ops ?_
      refine o_mov rfl rfl ?_
      refine o_lnl rfl rfl ?_
      refine o_mov rfl rfl ?_
      refine o_nil ?_
      refine sSeq_normal ?_
      refine s_block ?_
      refine s_iter (α := Nat × List Int × Nat × Nat × Nat × List Value) (fun z => t.length - z.1)
        (fun z => [(0, .slice ob t.length cap), (1, .bool named), (6, .slice (some ⟨z.2.2.1, 0, some z.2.2.2.2.1⟩) z.2.1.length z.2.2.2.1), (23, .slice ob t.length cap), (24, I64 (t.length : Nat)), (25, I64 (z.1 : Nat))])
        (fun z => [(z.2.2.1, .row z.2.2.2.2.2 true)])
        (fun z => z.1 ≤ t.length ∧ StackIs z.2.1 z.2.2.2.1 z.2.2.2.2.1 z.2.2.2.2.2 ∧ (∀ y ∈ z.2.1, 0 ≤ y ∧ y ≤ 9223372036854775807) ∧ chkGo symB named (t.drop z.1) z.1 z.2.1 = chkGo symB named t 0 [1] ∧ z.2.1.length ≤ z.1 + 1 ∧ z.2.1 ≠ [])
        (0, [1], b14, 1, 0, [I64 1]) (subCons rfl (subCons rfl (subCons rfl (subCons rfl (subCons rfl (subCons rfl subNil)))))) (.refl _) ⟨Nat.zero_le _, ⟨rfl, by simp, .inl ⟨rfl, rfl, rfl⟩⟩, by simp, by simp, by simp, by simp⟩ ?_
      rintro ⟨i, st, b, scap, sp, row⟩ ⟨hi0, hstk, hst, hgo, hslen, hne⟩
      dsimp only at hi0 hstk hst hgo hslen hne ⊢
      refine s_seq ?_
      refine s_ops ?_
      refine o_bin rfl rfl rfl rfl ?_
      refine o_nil ?_
      refine sSeq_normal ?_
      refine s_seq ?_
      refine s_cond rfl (fun hc2 => ?_) (fun hc2 => ?_)
      · have hi : i < t.length := by simp at hc2; omega
        obtain ⟨a1, a2, a3⟩ := acc hi
        obtain ⟨xx, hxx⟩ : ∃ xx, xx = t[i] := ⟨_, rfl⟩
        rw [chkGo_step symB named hi, ← hxx] at hgo
        rw [← hxx] at a3
        have hwx : xx.kids ≤ 9223372036854775807 := by rw [hxx]; exact hw _ (List.getElem_mem hi)
        refine s_skip ?_
        refine sSeq_normal ?_
        refine s_seq ?_
        refine s_block ?_
        refine s_seq ?_
        refine s_ops ?_
        refine o_mov rfl rfl ?_
        refine o_iad rfl rfl hi a1 rfl ?_
        refine o_ld_old rfl a2 (by simp) a3 rfl ?_
        refine o_newz rfl (fun b23 => ?_)
        refine o_mov rfl rfl ?_
        refine o_stN (M1 := []) (cn := xx.cells) rfl rfl rfl rfl (by show 0 + 6 ≤ 6; exact Nat.le_refl _) rfl rfl ?_
        refine o_nil ?_
        refine sSeq_normal ?_
        refine s_seq ?_
        refine s_block ?_
        refine s_iter (α := List Int) (fun s => s.length)
          (fun s => [(0, .slice ob t.length cap), (1, .bool named), (6, .slice (some ⟨b, 0, some sp⟩) s.length scap), (7, I64 (i : Nat)), (8, .pointer (some ⟨b23, 0, none⟩)), (23, .slice ob t.length cap), (24, I64 (t.length : Nat)), (25, I64 (i : Nat))])
          (fun s => [(b23, .row xx.cells true), (b, .row row true)])
          (fun s => StackIs s scap sp row ∧ popZ s = popZ st ∧ (∀ y ∈ s, y ∈ st) ∧ s.length ≤ i + 1)
          st (subCons rfl (subCons rfl (subCons rfl (subCons rfl (subCons rfl (subCons rfl (subCons rfl (subCons rfl subNil)))))))) (.refl _) ⟨hstk, rfl, fun _ h => h, hslen⟩ ?_
        rintro st2 ⟨hstk2, hpz, hsub, hslen2⟩
        refine s_seq ?_
        refine s_seq ?_
        refine s_ops ?_
        refine o_mov rfl rfl ?_
        refine o_lnl rfl rfl ?_
        refine o_bin rfl rfl rfl rfl ?_
        refine o_mov rfl rfl ?_
        refine g_mov (by first | exact wanted_b rfl | exact wanted_g rfl) (by first | exact evG rfl | exact evG2 rfl | exact evG3 rfl | exact fun _ => rfl) rfl ?_
        refine g_mov (by first | exact wanted_b rfl | exact wanted_g rfl) (by first | exact evG rfl | exact evG2 rfl | exact evG3 rfl | exact fun _ => rfl) rfl ?_
        refine g_lnl (by first | exact wanted_b rfl | exact wanted_g rfl) (by first | exact evG rfl | exact evG2 rfl | exact evG3 rfl | exact fun _ => rfl) rfl ?_
        refine g_bin (v := I64 (st2.length - 1 : Nat)) (by first | exact wanted_b rfl | exact wanted_g rfl) (by first | exact evG rfl | exact evG2 rfl | exact evG3 rfl | exact fun _ => rfl) (by first | exact evG rfl | exact evG2 rfl | exact evG3 rfl | exact fun _ => rfl) (fun hw => ?_) rfl ?_
        · have : 0 < st2.length := by simpa using hw
          simp only [binV, binInt, if_true]
          rw [wrap64 (by omega) (by omega)]
          congr 2; omega
        refine g_iad (by first | exact wanted_b rfl | exact wanted_g rfl) (by first | exact evG rfl | exact evG2 rfl | exact evG3 rfl | exact fun _ => rfl) (by first | exact evG rfl | exact evG2 rfl | exact evG3 rfl | exact fun _ => rfl) (fun hw => Nat.sub_lt (by simpa using hw) Nat.one_pos) (fun _ => rfl) rfl ?_
        refine g_ld1w (v := I64 (st2.headD 0)) (by first | exact wanted_b rfl | exact wanted_g rfl) (by first | exact evG rfl | exact evG2 rfl | exact evG3 rfl | exact fun _ => rfl) (fun hw => ⟨row, true, .tail _ (.head _), hstk2.top (by simpa using hw)⟩) rfl ?_
        refine g_bin (by first | exact wanted_b rfl | exact wanted_g rfl) (by first | exact evG rfl | exact evG2 rfl | exact evG3 rfl | exact fun _ => rfl) (by first | exact evG rfl | exact evG2 rfl | exact evG3 rfl | exact fun _ => rfl) (fun _ => rfl) rfl ?_
        refine o_pickB rfl (by first | exact fun h => evG rfl (by rw [h]; rfl) | exact fun _ => rfl) (by first | exact fun h => evG rfl (by rw [h]; rfl) | exact fun _ => rfl) rfl ?_
        refine o_nil ?_
        refine sSeq_normal ?_
        refine s_cond rfl (fun hc3 => ?_) (fun hc3 => ?_)
        · obtain ⟨r, rfl⟩ : ∃ r, st2 = 0 :: r := by
            cases st2 with
            | nil => simp at hc3
            | cons z r => simp at hc3; exact ⟨r, by rw [hc3]⟩
          obtain ⟨hp1, hp2, hp3⟩ := hstk2.pop
          simp only [List.length_cons] at hslen2
          refine s_skip ?_
          refine sSeq_normal ?_
          refine s_block ?_
          refine s_ops ?_
          refine o_mov rfl rfl ?_
          refine o_mov rfl rfl ?_
          refine o_lnl rfl rfl ?_
          refine o_bin (v := I64 (r.length : Nat)) rfl rfl (by simp only [binV, binInt, if_true, List.length_cons]; rw [wrap64 (by omega) (by omega)]; congr 2; omega) rfl ?_
          refine o_slTo rfl rfl (m := r.length) hp3 (.inr (by rw [hp2]; rfl)) rfl ?_
          refine o_mov rfl rfl ?_
          refine o_nil ?_
          refine sBlock_normal ?_
          exact sIter_next r (by simp) (subCons rfl (subCons rfl (subCons rfl (subCons rfl (subCons rfl (subCons rfl (subCons rfl (subCons rfl subNil)))))))) (.refl _) ⟨hp1, by rw [← hpz]; simp [popZ], fun y hy => hsub y (by simp [hy]), by omega⟩
        · have hpz2 : popZ st = st2 := by
            rw [← hpz]
            cases st2 with
            | nil => rfl
            | cons z r => simp at hc3; simp [popZ, hc3]
          rw [hpz2] at hgo
          refine s_exit ?_
          refine sSeq_exit ?_
          refine sIter_exit ?_
          refine sBlock_exit ?_
          refine sSeq_normal ?_
          refine s_seq ?_
          refine s_block ?_
          refine s_seq ?_
          refine s_ops ?_
          refine o_mov rfl rfl ?_
          refine o_lnl rfl rfl ?_
          refine o_bin rfl rfl rfl rfl ?_
          refine o_mov rfl rfl ?_
          refine g_fad (by first | exact wanted_b rfl | exact wanted_g rfl) (by first | exact evG rfl | exact evG2 rfl | exact evG3 rfl | exact fun _ => rfl) rfl ?_
          refine g_ld1 (by first | exact wanted_b rfl | exact wanted_g rfl) (by first | exact evG rfl | exact evG2 rfl | exact evG3 rfl | exact fun _ => rfl) (by first | exact .head _ | exact .tail _ (.head _) | exact .tail _ (.tail _ (.head _)) | exact .tail _ (.tail _ (.tail _ (.head _))) | exact .tail _ (.tail _ (.tail _ (.tail _ (.head _))))) rfl rfl ?_
          refine g_bin (by first | exact wanted_b rfl | exact wanted_g rfl) (by first | exact evG rfl | exact evG2 rfl | exact evG3 rfl | exact fun _ => rfl) (by first | exact evG rfl | exact evG2 rfl | exact evG3 rfl | exact fun _ => rfl) (fun _ => rfl) rfl ?_
          refine o_pickB rfl (by first | exact fun h => evG rfl (by rw [h]; rfl) | exact fun _ => rfl) (by first | exact fun h => evG rfl (by rw [h]; rfl) | exact fun _ => rfl) rfl ?_
          refine o_mov rfl rfl ?_
          refine g_fad (by first | exact wanted_b rfl | exact wanted_g rfl) (by first | exact evG rfl | exact evG2 rfl | exact evG3 rfl | exact fun _ => rfl) rfl ?_
          refine g_ld1 (by first | exact wanted_b rfl | exact wanted_g rfl) (by first | exact evG rfl | exact evG2 rfl | exact evG3 rfl | exact fun _ => rfl) (by first | exact .head _ | exact .tail _ (.head _) | exact .tail _ (.tail _ (.head _)) | exact .tail _ (.tail _ (.tail _ (.head _))) | exact .tail _ (.tail _ (.tail _ (.tail _ (.head _))))) rfl rfl ?_
          refine g_bin (by first | exact wanted_b rfl | exact wanted_g rfl) (by first | exact evG rfl | exact evG2 rfl | exact evG3 rfl | exact fun _ => rfl) (by first | exact evG rfl | exact evG2 rfl | exact evG3 rfl | exact fun _ => rfl) (fun _ => rfl) rfl ?_
          refine o_pickB rfl (by first | exact fun h => evG rfl (by rw [h]; rfl) | exact fun _ => rfl) (by first | exact fun h => evG rfl (by rw [h]; rfl) | exact fun _ => rfl) rfl ?_
          refine o_mov rfl rfl ?_
          refine g_fad (by first | exact wanted_b rfl | exact wanted_g rfl) (by first | exact evG rfl | exact evG2 rfl | exact evG3 rfl | exact fun _ => rfl) rfl ?_
          refine g_ld1 (by first | exact wanted_b rfl | exact wanted_g rfl) (by first | exact evG rfl | exact evG2 rfl | exact evG3 rfl | exact fun _ => rfl) (by first | exact .head _ | exact .tail _ (.head _) | exact .tail _ (.tail _ (.head _)) | exact .tail _ (.tail _ (.tail _ (.head _))) | exact .tail _ (.tail _ (.tail _ (.tail _ (.head _))))) rfl rfl ?_
          refine g_bin (by first | exact wanted_b rfl | exact wanted_g rfl) (by first | exact evG rfl | exact evG2 rfl | exact evG3 rfl | exact fun _ => rfl) (by first | exact evG rfl | exact evG2 rfl | exact evG3 rfl | exact fun _ => rfl) (fun _ => rfl) rfl ?_
          refine o_pickB rfl (by first | exact fun h => evG rfl (by rw [h]; rfl) | exact fun _ => rfl) (by first | exact fun h => evG rfl (by rw [h]; rfl) | exact fun _ => rfl) rfl ?_
          refine o_mov rfl rfl ?_
          refine o_nil ?_
          refine sSeq_normal ?_
          refine s_cond rfl (fun hc4 => ?_) (fun hc4 => ?_)
          · have hres : check symB t named = (i, 6) := check_inl symB named h0 h1 (by
              rw [← hgo]
              cases st2 with
              | nil => rfl
              | cons z r =>
                have : kindBad xx = true := by simp [kindBad]; simp at hc4; omega
                simp only [this, if_true])
            refine s_seq ?_
            refine s_ops ?_
            refine o_mov rfl rfl ?_
            refine o_mov rfl rfl ?_
            refine o_mov rfl rfl ?_
            refine o_nil ?_
            refine sSeq_normal ?_
            refine s_ret ?_
            refine sBlock_ret ?_
            refine sSeq_ret ?_
            refine sBlock_ret ?_
            refine sSeq_ret ?_
            refine sIter_ret ?_
            refine sBlock_ret ?_
            refine sSeq_ret ?_
            refine sRet_ret [_, _] ⟨rfl, rfl, trivial⟩ ?_
            show Value.tuple ⟨[_, _]⟩ = _
            rw [hres]
            first | rfl | done
          · obtain ⟨z, r, rfl⟩ : ∃ z r, st2 = z :: r := by
              cases st2 with
              | nil => simp at hc4
              | cons z r => exact ⟨z, r, rfl⟩
            simp only [List.length_cons] at hslen2
            have hkb : kindBad xx = false := by simp [kindBad]; simp at hc4; omega
            simp only [hkb, Bool.false_eq_true, if_false] at hgo
            have hz := hst z (hsub z (by simp))
            have hz1 := (popZ_cons hpz2).1
            have hkk : 0 ≤ xx.kids := by simp [kindBad] at hkb; omega
            refine s_seq ?_
            refine s_ops ?_
            refine o_mov rfl rfl ?_
            refine o_lnl rfl rfl ?_
            refine o_bin rfl rfl rfl rfl ?_
            refine o_mov rfl rfl ?_
            refine o_nil ?_
            refine sSeq_normal ?_
            refine s_cond rfl (fun hc5 => ?_) (fun hc5 => ?_)
            · have hres : check symB t named = (i, 3) := check_inl symB named h0 h1 (by
                have : r.length + 1 > 201 := by simp at hc5; omega
                rw [← hgo, if_pos this])
              refine s_seq ?_
              refine s_ops ?_
              refine o_mov rfl rfl ?_
              refine o_mov rfl rfl ?_
              refine o_mov rfl rfl ?_
              refine o_nil ?_
              refine sSeq_normal ?_
              refine s_ret ?_
              refine sBlock_ret ?_
              refine sSeq_ret ?_
              refine sBlock_ret ?_
              refine sSeq_ret ?_
              refine sIter_ret ?_
              refine sBlock_ret ?_
              refine sSeq_ret ?_
              refine sRet_ret [_, _] ⟨rfl, rfl, trivial⟩ ?_
              show Value.tuple ⟨[_, _]⟩ = _
              rw [hres]
              first | rfl | done
            · have hrl : ¬ r.length + 1 > 201 := by simp at hc5; omega
              rw [if_neg hrl] at hgo
              refine s_skip ?_
              refine sBlock_normal ?_
              refine sSeq_normal ?_
              refine s_seq ?_
              refine s_seq ?_
              refine s_ops ?_
              refine o_ld (own := true) (c := xx.cells) rfl (.head _) (by show 0 + 6 ≤ 6; exact Nat.le_refl _) rfl ?_
              refine o_call0 (v := I64 (if fieldsBad xx then 6 else 0)) rfl (ha1 rfl) rfl (fun H1 _ => fields_spec hE xx H1) ?_
              refine o_mov rfl rfl ?_
              refine o_nil ?_
              refine sSeq_normal ?_
              refine s_seq ?_
              refine s_ops ?_
              refine o_mov rfl rfl ?_
              refine o_bin rfl rfl rfl rfl ?_
              refine o_nil ?_
              refine sSeq_normal ?_
              refine s_cond rfl (fun hc6 => ?_) (fun hc6 => ?_)
              · have hfb : fieldsBad xx = true := by simpa using hc6
                have hres : check symB t named = (i, 6) := check_inl symB named h0 h1 (by rw [← hgo, if_pos hfb])
                rw [if_pos hfb]
                refine s_seq ?_
                refine s_ops ?_
                refine o_mov rfl rfl ?_
                refine o_mov rfl rfl ?_
                refine o_mov rfl rfl ?_
                refine o_mov rfl rfl ?_
                refine o_nil ?_
                refine sSeq_normal ?_
                refine s_ret ?_
                refine sSeq_ret ?_
                refine sBlock_ret ?_
                refine sSeq_ret ?_
                refine sIter_ret ?_
                refine sBlock_ret ?_
                refine sSeq_ret ?_
                refine sRet_ret [_, _] ⟨rfl, rfl, trivial⟩ ?_
                show Value.tuple ⟨[_, _]⟩ = _
                rw [hres]
                first | rfl | done
              · have hfb : ¬ fieldsBad xx = true := by simpa using hc6
                rw [if_neg hfb] at hgo
                refine s_skip ?_
                refine sSeq_normal ?_
                refine s_seq ?_
                refine s_seq ?_
                refine s_ops ?_
                refine o_ld (own := true) (c := xx.cells) rfl (.head _) (by show 0 + 6 ≤ 6; exact Nat.le_refl _) rfl ?_
                refine o_mov rfl rfl ?_
                refine o_call0 (v := I64 (numbersErr symB xx named)) rfl (ha2 rfl rfl) rfl (fun H1 hH1 => numbers_spec hE symB xx named H1 ((hsym xx (by simp [hxx])).mono hH1)) ?_
                refine o_mov rfl rfl ?_
                refine o_nil ?_
                refine sSeq_normal ?_
                refine s_seq ?_
                refine s_ops ?_
                refine o_mov rfl rfl ?_
                refine o_bin rfl rfl rfl rfl ?_
                refine o_nil ?_
                refine sSeq_normal ?_
                refine s_cond rfl (fun hc7 => ?_) (fun hc7 => ?_)
                · have hnb : numbersErr symB xx named ≠ 0 := by simpa using hc7
                  have hres : check symB t named = (i, numbersErr symB xx named) := check_inl symB named h0 h1 (by rw [← hgo, if_pos hnb])
                  refine s_seq ?_
                  refine s_ops ?_
                  refine o_mov rfl rfl ?_
                  refine o_mov rfl rfl ?_
                  refine o_mov rfl rfl ?_
                  refine o_mov rfl rfl ?_
                  refine o_nil ?_
                  refine sSeq_normal ?_
                  refine s_ret ?_
                  refine sSeq_ret ?_
                  refine sBlock_ret ?_
                  refine sSeq_ret ?_
                  refine sIter_ret ?_
                  refine sBlock_ret ?_
                  refine sSeq_ret ?_
                  refine sRet_ret [_, _] ⟨rfl, rfl, trivial⟩ ?_
                  show Value.tuple ⟨[_, _]⟩ = _
                  rw [hres]
                  first | rfl | done
                · have hnb : ¬ numbersErr symB xx named ≠ 0 := by simpa using hc7
                  rw [if_neg hnb] at hgo
                  have hrow := hstk2.le
                  simp only [List.length_cons] at hrow
                  have htop := hstk2.top (by simp)
                  simp only [List.length_cons, Nat.add_sub_cancel, List.headD_cons] at htop
                  refine s_skip ?_
                  refine sSeq_normal ?_
                  refine s_seq ?_
                  refine s_ops ?_
                  refine o_mov rfl rfl ?_
                  refine o_mov rfl rfl ?_
                  refine o_lnl rfl rfl ?_
                  refine o_bin (v := I64 (r.length : Nat)) rfl rfl (by simp only [binV, binInt, if_true, List.length_cons]; rw [wrap64 (by omega) (by omega)]; congr 2; omega) rfl ?_
                  refine o_iad rfl rfl (i := r.length) (by simp) rfl rfl ?_
                  refine o_ld1 (v := I64 z) rfl (.tail _ (.head _)) htop rfl ?_
                  refine o_bin (v := I64 (z - 1)) rfl rfl (by simp only [binV, binInt, if_true]; rw [wrap64 (by omega) (by omega)]) rfl ?_
                  refine o_iad rfl rfl (i := r.length) (by simp) rfl rfl ?_
                  refine o_stN (M1 := [(b23, .row xx.cells true)]) (M2 := []) (cn := row.set r.length (I64 (z - 1))) rfl rfl rfl rfl (by show 0 + r.length * 1 + 1 ≤ _; omega) rfl (by show setAll row (0 + r.length * 1) [_] = _; rw [setAll_one _ _ _ (by omega)]; simp) ?_
                  refine o_nil ?_
                  refine sSeq_normal ?_
                  refine s_ops ?_
                  refine o_mov rfl rfl ?_
                  refine o_fad rfl rfl ?_
                  refine o_ld1 rfl (by first | exact .head _ | exact .tail _ (.head _) | exact .tail _ (.tail _ (.head _)) | exact .tail _ (.tail _ (.tail _ (.head _))) | exact .tail _ (.tail _ (.tail _ (.tail _ (.head _))))) rfl rfl ?_
                  refine o_lits (c := [I64 xx.kids]) (fun F hF => by simp only [List.map, hF.ev (x := .tmp 95) rfl]; rfl) rfl (fun b104 => ?_)
                  refine o_app (cs := ((z - 1) :: r).reverse.map I64) (Mo := [(b, .row (row.set r.length (I64 (z - 1))) true)]) (Mr := []) (len := r.length + 1) (new := [I64 xx.kids]) rfl rfl (.inr ⟨b, r.length + 1, scap, sp, _, rfl, rfl, by simp, hstk2.set, by simp; omega, ?_⟩) (by simp) (by decide) (by decide) (fun H1 hH1 => by simp [Hp.cells?, hH1.row (.head _)]) rfl (by omega) (.cons _ (.cons _ (.refl _))) rfl (fun b105 => ?_)
                  · rcases hstk2.alt with ⟨g1, g2, _⟩ | ⟨g1, g2, g3⟩
                    · exact .inl ⟨g1, by simpa using g2⟩
                    · exact .inr ⟨g1, g2, by simpa using g3⟩
                  refine o_mov rfl rfl ?_
                  refine o_nil ?_
                  refine sBlock_normal ?_
                  refine sSeq_normal ?_
                  refine s_ops ?_
                  refine o_bin (v := I64 (i + 1 : Nat)) rfl rfl (by simp only [binV, binInt, if_true]; rw [wrap64 (by omega) (by omega)]; rfl) rfl ?_
                  refine o_mov rfl rfl ?_
                  refine o_nil ?_
                  refine sIter_next (i + 1, xx.kids :: (z - 1) :: r, b105, r.length + 1 + 1, 2, _) (by dsimp only; omega) (subCons rfl (subCons rfl (subCons rfl (subCons rfl (subCons rfl (subCons rfl subNil)))))) (.refl _) ⟨hi, ⟨?_, by simp, .inr ⟨rfl, Nat.succ_pos _, by simp⟩⟩, ?_, ?_, by simp only [List.length_cons]; omega, by simp⟩
                  · rw [List.take_of_length_le (by simp)]; simp
                  · intro y hy
                    simp only [List.mem_cons] at hy
                    rcases hy with rfl | rfl | hy
                    · exact ⟨hkk, hwx⟩
                    · omega
                    · exact hst y (hsub y (by simp [hy]))
                  · exact hgo
      · have hi : i = t.length := by simp at hc2; omega
        subst hi
        rw [List.drop_of_length_le (Nat.le_refl _)] at hgo
        simp only [chkGo] at hgo
        refine s_exit ?_
        refine sSeq_exit ?_
        refine sIter_exit ?_
        refine sBlock_exit ?_
        refine sSeq_normal ?_
        refine s_seq ?_
        refine s_block ?_
        refine s_seq ?_
        refine s_ops ?_
        refine o_mov rfl rfl ?_
        refine o_call0 (v := I64 (maxL st.reverse)) rfl (ha1 rfl) rfl (fun H1 hH1 => ?_) ?_
        · have hl : st.reverse.length = st.length := by simp
          have := max_spec hE st.reverse (by rw [hl]; exact List.length_pos_iff.2 hne) (by rw [hl]; omega) H1 (some ⟨b, 0, some sp⟩) scap (SlE.own (rest := row.drop st.length) (own := true) (by simp [ints]) (hH1.lt (.head _)) (by rw [ints_flat, ← hstk.take, List.take_append_drop]; exact hH1.row (.head _)))
          rw [hl] at this
          exact this
        refine o_bin rfl rfl rfl rfl ?_
        refine o_mov rfl rfl ?_
        refine o_nil ?_
        refine sSeq_normal ?_
        refine s_cond rfl (fun hc8 => ?_) (fun hc8 => ?_)
        · have hres : check symB t named = (t.length, 6) := by
            have : maxL st.reverse > 0 := by simpa using hc8
            unfold check; rw [if_neg h0, if_neg h1, ← hgo]; exact if_pos this
          refine s_seq ?_
          refine s_ops ?_
          refine o_mov rfl rfl ?_
          refine o_lnl rfl rfl ?_
          refine o_mov rfl rfl ?_
          refine o_mov rfl rfl ?_
          refine o_nil ?_
          refine sSeq_normal ?_
          refine s_ret ?_
          refine sBlock_ret ?_
          refine sSeq_ret ?_
          refine sRet_ret [_, _] ⟨rfl, rfl, trivial⟩ ?_
          show Value.tuple ⟨[_, _]⟩ = _
          rw [hres]
          first | rfl | done
        · have hmx : ¬ maxL st.reverse > 0 := by simpa using hc8
          obtain ⟨ht, hk0, hr⟩ := chk_whole symB named hgo.symm hmx
          have hp : 0 < t.length := by omega
          obtain ⟨a1, a2, a3⟩ := acc hp
          refine s_seq ?_
          refine s_ops ?_
          refine o_mov rfl rfl ?_
          refine o_iad rfl rfl (i := 0) hp a1 rfl ?_
          refine o_fad rfl rfl ?_
          refine o_ld1_old rfl a2 (by simp) (accK hp) rfl ?_
          refine o_bin rfl rfl rfl rfl ?_
          refine o_mov rfl rfl ?_
          refine o_nil ?_
          refine sSeq_normal ?_
          refine s_cond rfl (fun hc9 => ?_) (fun hc9 => ?_)
          · have hres : check symB t named = (0, 6) := by
              have : (t[0]?.map Node.kind) = some 12 := by rw [List.getElem?_eq_getElem hp]; simpa using hc9
              unfold check; rw [if_neg h0, if_neg h1, ← hgo]; exact (if_neg hmx).trans (if_pos this)
            refine s_seq ?_
            refine s_ops ?_
            refine o_mov rfl rfl ?_
            refine o_mov rfl rfl ?_
            refine o_nil ?_
            refine sSeq_normal ?_
            refine s_ret ?_
            refine sBlock_ret ?_
            refine sSeq_ret ?_
            refine sRet_ret [_, _] ⟨rfl, rfl, trivial⟩ ?_
            show Value.tuple ⟨[_, _]⟩ = _
            rw [hres]
            first | rfl | done
          · have hnow : check symB t named = famFirst t named t.length 0 := by
              have : ¬ (t[0]?.map Node.kind) = some 12 := by rw [List.getElem?_eq_getElem hp]; simpa using hc9
              unfold check; rw [if_neg h0, if_neg h1, ← hgo]; exact (if_neg hmx).trans (if_neg this)
            refine s_skip ?_
            refine sBlock_normal ?_
            refine sSeq_normal ?_
            refine s_seq ?_
            refine s_ops ?_
            refine o_mov rfl rfl ?_
            refine o_call rfl (ha1 rfl) rfl (fun H1 hH1 => ⟨[], [], by simp, by simp, .nil, (ends_spec hE ht (by omega) hk0 H1 ob cap (hsl.mono hH1 (fun _ _ h => (by cases h)))).mono ?_⟩)
            rintro v M1 ⟨be, rfl, hbe⟩
            refine So.weakM (M' := [(be, .row ((endsL t).map I64) true)]) ?_ (by rw [List.append_nil]; exact List.singleton_sublist.2 hbe)
            refine o_mov rfl rfl ?_
            refine o_nil ?_
            refine sSeq_normal ?_
            refine s_seq ?_
            refine s_seq ?_
            refine s_ops ?_
            refine o_mov rfl rfl ?_
            refine o_lnl rfl rfl ?_
            refine o_mov rfl rfl ?_
            refine o_nil ?_
            refine sSeq_normal ?_
            refine s_block ?_
            refine s_iter (α := Nat) (fun k => t.length - k) (fun k => [(0, .slice ob t.length cap), (1, .bool named), (11, .slice (some ⟨be, 0, some 0⟩) t.length t.length), (114, I64 (t.length : Nat)), (115, I64 (k : Nat))]) (fun _ => [(be, .row ((endsL t).map I64) true)]) (fun k => k ≤ t.length ∧ famFirst t named (t.length - k) k = famFirst t named t.length 0) 0 (subCons rfl (subCons rfl (subCons rfl (subCons rfl (subCons rfl subNil))))) (.refl _) ⟨Nat.zero_le _, rfl⟩ ?_
            rintro k ⟨hk, hff⟩
            refine s_seq ?_
            refine s_ops ?_
            refine o_bin rfl rfl rfl rfl ?_
            refine o_nil ?_
            refine sSeq_normal ?_
            refine s_seq ?_
            refine s_cond rfl (fun hc10 => ?_) (fun hc10 => ?_)
            · have hk2 : k < t.length := by simp at hc10; omega
              rw [show t.length - k = (t.length - (k + 1)) + 1 by omega, famFirst_step hk2] at hff
              obtain ⟨fe, hfe⟩ : ∃ fe, fe = familyErr t t[k] k named := ⟨_, rfl⟩
              rw [← hfe] at hff
              refine s_skip ?_
              refine sSeq_normal ?_
              refine s_seq ?_
              refine s_block ?_
              refine s_seq ?_
              refine s_ops ?_
              refine o_mov rfl rfl ?_
              refine o_mov rfl rfl ?_
              refine o_nil ?_
              refine sSeq_normal ?_
              refine s_seq ?_
              refine s_ops ?_
              refine o_mov rfl rfl ?_
              refine o_mov rfl rfl ?_
              refine o_mov rfl rfl ?_
              refine o_mov rfl rfl ?_
              refine o_call0 (v := I64 fe) rfl (ha4 rfl rfl rfl rfl) rfl (fun H1 hH1 => ?_) ?_
              · rw [hfe]
                exact family_spec hE ht (by omega) hk0 hr hk2 named H1 ob (some ⟨be, 0, some 0⟩) cap t.length (hsl.mono hH1 (fun _ _ h => (by cases h))) (SlE.own (rest := []) (own := true) (by simp [ints]) (hH1.lt (.head _)) (by rw [List.append_nil, ints_flat]; exact hH1.row (.head _)))
              refine o_mov rfl rfl ?_
              refine o_nil ?_
              refine sSeq_normal ?_
              refine s_seq ?_
              refine s_ops ?_
              refine o_mov rfl rfl ?_
              refine o_bin rfl rfl rfl rfl ?_
              refine o_nil ?_
              refine sSeq_normal ?_
              refine s_cond rfl (fun hc11 => ?_) (fun hc11 => ?_)
              · have hfn : fe ≠ 0 := by simpa using hc11
                have hres : check symB t named = (k, fe) := by
                  rw [hnow, ← hff, if_pos hfn]
                refine s_seq ?_
                refine s_ops ?_
                refine o_mov rfl rfl ?_
                refine o_mov rfl rfl ?_
                refine o_mov rfl rfl ?_
                refine o_mov rfl rfl ?_
                refine o_nil ?_
                refine sSeq_normal ?_
                refine s_ret ?_
                refine sBlock_ret ?_
                refine sSeq_ret ?_
                refine sIter_ret ?_
                refine sBlock_ret ?_
                refine sSeq_ret ?_
                refine sRet_ret [_, _] ⟨rfl, rfl, trivial⟩ ?_
                show Value.tuple ⟨[_, _]⟩ = _
                rw [hres]
                first | rfl | done
              · have hfn : ¬ fe ≠ 0 := by simpa using hc11
                rw [if_neg hfn] at hff
                refine s_skip ?_
                refine sBlock_normal ?_
                refine sSeq_normal ?_
                refine s_ops ?_
                refine o_bin (v := I64 (k + 1 : Nat)) rfl rfl (by simp only [binV, binInt, if_true]; rw [wrap64 (by omega) (by omega)]; rfl) rfl ?_
                refine o_mov rfl rfl ?_
                refine o_nil ?_
                exact sIter_next (k + 1) (by omega) (subCons rfl (subCons rfl (subCons rfl (subCons rfl (subCons rfl subNil))))) (.refl _) ⟨hk2, hff⟩
            · have hk2 : k = t.length := by simp at hc10; omega
              have hres : check symB t named = (0, 0) := by
                rw [hnow, ← hff, hk2, Nat.sub_self]; rfl
              refine s_exit ?_
              refine sSeq_exit ?_
              refine sIter_exit ?_
              refine sBlock_exit ?_
              refine sSeq_normal ?_
              refine s_seq ?_
              refine s_ops ?_
              refine o_mov rfl rfl ?_
              refine o_mov rfl rfl ?_
              refine o_nil ?_
              refine sSeq_normal ?_
              refine s_ret ?_
              refine sRet_ret [_, _] ⟨rfl, rfl, trivial⟩ ?_
              show Value.tuple ⟨[_, _]⟩ = _
              rw [hres]
              first | rfl | done

end Go.Proofs.YtfonnebpnobomaaDoor.W
namespace Go.Proofs.YtfonnebpnobomaaDoor.W
open Go Am code
set_option maxRecDepth 100000
set_option maxHeartbeats 4000000
set_option linter.unusedSimpArgs false
set_option linter.unusedVariables false
variable {E : Env} (hE : Has E)
variable (symB : ByteArray → Bool)

/-- what is asked of a term: its numbers are such as the machine's are -/
structure TermOK (t : List Node) : Prop where
  kids : ∀ x ∈ t, x.kids ≤ 9223372036854775807
  len : t.length ≤ 9223372036854775807
def form (t : List Node) : Bool × Int := if (check symB t false).2 = 0 then (false, 0) else (true, (check symB t true).2)
def place (t : List Node) (i : Int) : Int := if (form symB t).2 ≠ 0 then (form symB t).2 else if i < 0 ∨ i ≥ t.length then 4 else 0
def valueAt (t : List Node) (i : Int) : Bool × Int := if place symB t i ≠ 0 then (false, place symB t i) else (match t[i.toNat]? with | some x => isValue x.kind | none => false, 0)
/-- the error of a value -/
def valErr (t : List Node) : Int := if (check symB t false).2 ≠ 0 then (check symB t false).2 else if (valueAt symB t 0).1 then 0 else 6
def whatOf (x : Node) : Int := if x.kind = 8 ∨ x.kind = 6 then 6 else x.kind
theorem check_ok_pos {t : List Node} (h : (check symB t false).2 = 0) : 0 < t.length := by
  rcases Nat.eq_zero_or_pos t.length with e | e
  · unfold check at h; rw [if_pos e] at h; cases h
  · exact e
theorem valErr_ok {t : List Node} (h : valErr symB t = 0) : 0 < t.length := by
  unfold valErr at h
  by_cases e : (check symB t false).2 ≠ 0
  · rw [if_pos e] at h; exact absurd h e
  · exact check_ok_pos symB (by simpa using e)
def what (t : List Node) : Int × Int := if valErr symB t ≠ 0 then (0, valErr symB t) else (match t[0]? with | some x => whatOf x | none => 0, 0)

include hE in
theorem form_spec {t : List Node} (ht : TermOK t) (H : Hp) (hsym : SymsOK E symB t H) (ob : Option Addr) (cap : Nat) (hsl : SlE H 6 ob (t.map Node.cells)) : Sc E 59 [.slice ob t.length cap] H [] fun v _ => v = .tuple ⟨[.bool (form symB t).1, I64 (form symB t).2]⟩ := by
  refine sc_body hE.h59 rfl ?_
  show Ss E _ _ _ c59.body _ _ _
  unfold c59
  refine s_seq ?_
  refine s_ops ?_
  refine o_mov rfl rfl ?_
  refine o_mov rfl rfl ?_
  refine o_nil ?_
  refine sSeq_normal ?_
  refine s_seq ?_
  refine s_seq ?_
  refine s_ops ?_
  refine o_mov rfl rfl ?_
  refine o_call0 (v := .tuple ⟨[I64 ((check symB t false).1 : Nat), I64 (check symB t false).2]⟩) rfl (ha2 rfl rfl) rfl (fun H1 hH1 => check_spec hE symB ht.kids ht.len false H1 (hsym.mono hH1) ob cap (hsl.mono hH1 (fun _ _ h => (by cases h)))) ?_
  refine o_mov rfl rfl ?_
  refine o_ext rfl rfl rfl ?_
  refine o_ext rfl rfl rfl ?_
  refine o_mov rfl rfl ?_
  refine o_mov rfl rfl ?_
  refine o_nil ?_
  refine sSeq_normal ?_
  refine s_seq ?_
  refine s_ops ?_
  refine o_mov rfl rfl ?_
  refine o_bin rfl rfl rfl rfl ?_
  refine o_nil ?_
  refine sSeq_normal ?_
  refine s_cond rfl (fun hc0 => ?_) (fun hc0 => ?_)
  · have hc : (check symB t false).2 = 0 := by simpa using hc0
    have hres : form symB t = (false, 0) := by unfold form; rw [if_pos hc]
    refine s_seq ?_
    refine s_ops ?_
    refine o_mov rfl rfl ?_
    refine o_mov rfl rfl ?_
    refine o_nil ?_
    refine sSeq_normal ?_
    refine s_ret ?_
    refine sSeq_ret ?_
    refine sRet_ret [_, _] ⟨rfl, rfl, trivial⟩ ?_
    show Value.tuple ⟨[_, _]⟩ = _
    rw [hres]
    first | rfl | done
  · have hc : ¬ (check symB t false).2 = 0 := by simpa using hc0
    have hres : form symB t = (true, (check symB t true).2) := by unfold form; rw [if_neg hc]
    refine s_skip ?_
    refine sSeq_normal ?_
    refine s_seq ?_
    refine s_ops ?_
    refine o_mov rfl rfl ?_
    refine o_call0 (v := .tuple ⟨[I64 ((check symB t true).1 : Nat), I64 (check symB t true).2]⟩) rfl (ha2 rfl rfl) rfl (fun H1 hH1 => check_spec hE symB ht.kids ht.len true H1 (hsym.mono hH1) ob cap (hsl.mono hH1 (fun _ _ h => (by cases h)))) ?_
    refine o_mov rfl rfl ?_
    refine o_ext rfl rfl rfl ?_
    refine o_ext rfl rfl rfl ?_
    refine o_mov rfl rfl ?_
    refine o_nil ?_
    refine sSeq_normal ?_
    refine s_seq ?_
    refine s_ops ?_
    refine o_mov rfl rfl ?_
    refine o_mov rfl rfl ?_
    refine o_mov rfl rfl ?_
    refine o_nil ?_
    refine sSeq_normal ?_
    refine s_ret ?_
    refine sRet_ret [_, _] ⟨rfl, rfl, trivial⟩ ?_
    show Value.tuple ⟨[_, _]⟩ = _
    rw [hres]
    first | rfl | done

include hE in
theorem place_spec {t : List Node} (ht : TermOK t) (i : Int) (H : Hp) (hsym : SymsOK E symB t H) (ob : Option Addr) (cap : Nat) (hsl : SlE H 6 ob (t.map Node.cells)) : Sc E 47 [.slice ob t.length cap, I64 i] H [] fun v _ => v = I64 (place symB t i) := by
  refine sc_body hE.h47 rfl ?_
  show Ss E _ _ _ c47.body _ _ _
  unfold c47
  refine s_seq ?_
  refine s_ops ?_
  refine o_mov rfl rfl ?_
  refine o_nil ?_
  refine sSeq_normal ?_
  refine s_seq ?_
  refine s_seq ?_
  refine s_ops ?_
  refine o_mov rfl rfl ?_
  refine o_call0 (v := .tuple ⟨[.bool (form symB t).1, I64 (form symB t).2]⟩) rfl (ha1 rfl) rfl (fun H1 hH1 => form_spec hE symB ht H1 (hsym.mono hH1) ob cap (hsl.mono hH1 (fun _ _ h => (by cases h)))) ?_
  refine o_mov rfl rfl ?_
  refine o_ext rfl rfl rfl ?_
  refine o_ext rfl rfl rfl ?_
  refine o_mov rfl rfl ?_
  refine o_mov rfl rfl ?_
  refine o_nil ?_
  refine sSeq_normal ?_
  refine s_seq ?_
  refine s_ops ?_
  refine o_mov rfl rfl ?_
  refine o_bin rfl rfl rfl rfl ?_
  refine o_nil ?_
  refine sSeq_normal ?_
  refine s_cond rfl (fun hc0 => ?_) (fun hc0 => ?_)
  · have hc : (form symB t).2 ≠ 0 := by simpa using hc0
    have hres : place symB t i = (form symB t).2 := by unfold place; rw [if_pos hc]
    refine s_seq ?_
    refine s_ops ?_
    refine o_mov rfl rfl ?_
    refine o_mov rfl rfl ?_
    refine o_nil ?_
    refine sSeq_normal ?_
    refine s_ret ?_
    refine sSeq_ret ?_
    refine sRet_ret [_] ⟨rfl, trivial⟩ ?_
    show I64 _ = _
    rw [hres]
    first | rfl | done
  · have hc : ¬ (form symB t).2 ≠ 0 := by simpa using hc0
    refine s_skip ?_
    refine sSeq_normal ?_
    refine s_seq ?_
    refine s_seq ?_
    refine s_ops ?_
    refine o_mov rfl rfl ?_
    refine o_bin rfl rfl rfl rfl ?_
    refine o_mov rfl rfl ?_
    refine g_mov (by first | exact wanted_b rfl | exact wanted_g rfl) (by first | exact evG rfl | exact evG2 rfl | exact evG3 rfl | exact fun _ => rfl) rfl ?_
    refine g_mov (by first | exact wanted_b rfl | exact wanted_g rfl) (by first | exact evG rfl | exact evG2 rfl | exact evG3 rfl | exact fun _ => rfl) rfl ?_
    refine g_lnl (by first | exact wanted_b rfl | exact wanted_g rfl) (by first | exact evG rfl | exact evG2 rfl | exact evG3 rfl | exact fun _ => rfl) rfl ?_
    refine g_bin (by first | exact wanted_b rfl | exact wanted_g rfl) (by first | exact evG rfl | exact evG2 rfl | exact evG3 rfl | exact fun _ => rfl) (by first | exact evG rfl | exact evG2 rfl | exact evG3 rfl | exact fun _ => rfl) (fun _ => rfl) rfl ?_
    refine o_pickB rfl (by first | exact fun h => evG rfl (by rw [h]; rfl) | exact fun _ => rfl) (by first | exact fun h => evG rfl (by rw [h]; rfl) | exact fun _ => rfl) rfl ?_
    refine o_nil ?_
    refine sSeq_normal ?_
    refine s_cond rfl (fun hc1 => ?_) (fun hc1 => ?_)
    · have hi : i < 0 ∨ i ≥ t.length := by simp at hc1; omega
      have hres : place symB t i = 4 := by unfold place; rw [if_neg hc, if_pos hi]
      refine s_seq ?_
      refine s_ops ?_
      refine o_mov rfl rfl ?_
      refine o_nil ?_
      refine sSeq_normal ?_
      refine s_ret ?_
      refine sSeq_ret ?_
      refine sRet_ret [_] ⟨rfl, trivial⟩ ?_
      show I64 _ = _
      rw [hres]
      first | rfl | done
    · have hi : ¬ (i < 0 ∨ i ≥ t.length) := by simp at hc1; omega
      have hres : place symB t i = 0 := by unfold place; rw [if_neg hc, if_neg hi]
      refine s_skip ?_
      refine sSeq_normal ?_
      refine s_seq ?_
      refine s_ops ?_
      refine o_mov rfl rfl ?_
      refine o_nil ?_
      refine sSeq_normal ?_
      refine s_ret ?_
      refine sRet_ret [_] ⟨rfl, trivial⟩ ?_
      show I64 _ = _
      rw [hres]
      first | rfl | done

include hE in
theorem Value_spec {t : List Node} (ht : TermOK t) (i : Int) (H : Hp) (hsym : SymsOK E symB t H) (ob : Option Addr) (cap : Nat) (hsl : SlE H 6 ob (t.map Node.cells)) : Sc E 25 [.slice ob t.length cap, I64 i] H [] fun v _ => v = .tuple ⟨[.bool (valueAt symB t i).1, I64 (valueAt symB t i).2]⟩ := by
  refine sc_body hE.h25 rfl ?_
  show Ss E _ _ _ c25.body _ _ _
  unfold c25
  refine s_seq ?_
  refine s_ops ?_
  refine o_mov rfl rfl ?_
  refine o_mov rfl rfl ?_
  refine o_nil ?_
  refine sSeq_normal ?_
  refine s_seq ?_
  refine s_seq ?_
  refine s_ops ?_
  refine o_mov rfl rfl ?_
  refine o_mov rfl rfl ?_
  refine o_call0 (v := I64 (place symB t i)) rfl (ha2 rfl rfl) rfl (fun H1 hH1 => place_spec hE symB ht i H1 (hsym.mono hH1) ob cap (hsl.mono hH1 (fun _ _ h => (by cases h)))) ?_
  refine o_mov rfl rfl ?_
  refine o_nil ?_
  refine sSeq_normal ?_
  refine s_seq ?_
  refine s_ops ?_
  refine o_mov rfl rfl ?_
  refine o_bin rfl rfl rfl rfl ?_
  refine o_nil ?_
  refine sSeq_normal ?_
  refine s_cond rfl (fun hc0 => ?_) (fun hc0 => ?_)
  · have hc : place symB t i ≠ 0 := by simpa using hc0
    have hres : valueAt symB t i = (false, place symB t i) := by unfold valueAt; rw [if_pos hc]
    refine s_seq ?_
    refine s_ops ?_
    refine o_mov rfl rfl ?_
    refine o_mov rfl rfl ?_
    refine o_mov rfl rfl ?_
    refine o_nil ?_
    refine sSeq_normal ?_
    refine s_ret ?_
    refine sSeq_ret ?_
    refine sRet_ret [_, _] ⟨rfl, rfl, trivial⟩ ?_
    show Value.tuple ⟨[_, _]⟩ = _
    rw [hres]
    first | rfl | done
  · have hc : ¬ place symB t i ≠ 0 := by simpa using hc0
    obtain ⟨k, rfl, hk⟩ : ∃ k : Nat, i = k ∧ k < t.length := by
      have h := Decidable.not_not.1 hc
      unfold place at h
      split at h
      · rename_i h2; exact absurd h h2
      · split at h
        · cases h
        · exact ⟨i.toNat, by omega, by omega⟩
    have hg := hsl.get (i := k) (by simpa using hk)
    have hcell : H.cell? ⟨(adr ob 6 k).block, (adr ob 6 k).off + 0, none⟩ = some (I64 t[k].kind) := hsl.cell (i := k) (j := 0) (by simpa using hk) (by simp [Node.cells])
    have hres : valueAt symB t k = (isValue t[k].kind, 0) := by
      unfold valueAt; rw [if_neg hc]; simp [hk]
    refine s_skip ?_
    refine sSeq_normal ?_
    refine s_seq ?_
    refine s_ops ?_
    refine o_mov rfl rfl ?_
    refine o_mov rfl rfl ?_
    refine o_iad rfl rfl hk hg.1 rfl ?_
    refine o_fad rfl rfl ?_
    refine o_ld1_old rfl hg.2.1 (by simp) hcell rfl ?_
    refine o_call0 (v := .bool (isValue (t[k]'hk).kind)) rfl (ha1 rfl) rfl (fun H1 hH1 => value_spec hE _ H1) ?_
    refine o_mov rfl rfl ?_
    refine o_mov rfl rfl ?_
    refine o_nil ?_
    refine sSeq_normal ?_
    refine s_ret ?_
    refine sRet_ret [_, _] ⟨rfl, rfl, trivial⟩ ?_
    show Value.tuple ⟨[_, _]⟩ = _
    rw [hres]
    first | rfl | done

include hE in
theorem pvalue_spec {t : List Node} (ht : TermOK t) (H : Hp) (hsym : SymsOK E symB t H) (ob : Option Addr) (cap : Nat) (hsl : SlE H 6 ob (t.map Node.cells)) : Sc E 19 [.slice ob t.length cap] H [] fun v _ => v = I64 (valErr symB t) := by
  refine sc_body hE.h19 rfl ?_
  show Ss E _ _ _ c19.body _ _ _
  unfold c19
  refine s_seq ?_
  refine s_ops ?_
  refine o_mov rfl rfl ?_
  refine o_nil ?_
  refine sSeq_normal ?_
  refine s_seq ?_
  refine s_seq ?_
  refine s_ops ?_
  refine o_mov rfl rfl ?_
  refine o_call0 (v := .tuple ⟨[I64 ((check symB t false).1 : Nat), I64 (check symB t false).2]⟩) rfl (ha2 rfl rfl) rfl (fun H1 hH1 => check_spec hE symB ht.kids ht.len false H1 (hsym.mono hH1) ob cap (hsl.mono hH1 (fun _ _ h => (by cases h)))) ?_
  refine o_mov rfl rfl ?_
  refine o_ext rfl rfl rfl ?_
  refine o_ext rfl rfl rfl ?_
  refine o_mov rfl rfl ?_
  refine o_mov rfl rfl ?_
  refine o_nil ?_
  refine sSeq_normal ?_
  refine s_seq ?_
  refine s_ops ?_
  refine o_mov rfl rfl ?_
  refine o_bin rfl rfl rfl rfl ?_
  refine o_nil ?_
  refine sSeq_normal ?_
  refine s_cond rfl (fun hc0 => ?_) (fun hc0 => ?_)
  · have hc : (check symB t false).2 ≠ 0 := by simpa using hc0
    have hres : valErr symB t = (check symB t false).2 := by unfold valErr; rw [if_pos hc]
    refine s_seq ?_
    refine s_ops ?_
    refine o_mov rfl rfl ?_
    refine o_mov rfl rfl ?_
    refine o_nil ?_
    refine sSeq_normal ?_
    refine s_ret ?_
    refine sSeq_ret ?_
    refine sRet_ret [_] ⟨rfl, trivial⟩ ?_
    show I64 _ = _
    rw [hres]
    first | rfl | done
  · have hc : ¬ (check symB t false).2 ≠ 0 := by simpa using hc0
    refine s_skip ?_
    refine sSeq_normal ?_
    refine s_seq ?_
    refine s_seq ?_
    refine s_ops ?_
    refine o_mov rfl rfl ?_
    refine o_call0 (v := .tuple ⟨[.bool (valueAt symB t 0).1, I64 (valueAt symB t 0).2]⟩) rfl (ha2 rfl rfl) rfl (fun H1 hH1 => Value_spec hE symB ht 0 H1 (hsym.mono hH1) ob cap (hsl.mono hH1 (fun _ _ h => (by cases h)))) ?_
    refine o_mov rfl rfl ?_
    refine o_ext rfl rfl rfl ?_
    refine o_ext rfl rfl rfl ?_
    refine o_mov rfl rfl ?_
    refine o_mov rfl rfl ?_
    refine o_nil ?_
    refine sSeq_normal ?_
    refine s_seq ?_
    refine s_ops ?_
    refine o_mov rfl rfl ?_
    refine o_un rfl rfl rfl ?_
    refine o_nil ?_
    refine sSeq_normal ?_
    refine s_cond rfl (fun hc1 => ?_) (fun hc1 => ?_)
    · have hv : ¬ (valueAt symB t 0).1 = true := by simpa using hc1
      have hres : valErr symB t = 6 := by unfold valErr; rw [if_neg hc, if_neg hv]
      refine s_seq ?_
      refine s_ops ?_
      refine o_mov rfl rfl ?_
      refine o_nil ?_
      refine sSeq_normal ?_
      refine s_ret ?_
      refine sSeq_ret ?_
      refine sRet_ret [_] ⟨rfl, trivial⟩ ?_
      show I64 _ = _
      rw [hres]
      first | rfl | done
    · have hv : (valueAt symB t 0).1 = true := by simpa using hc1
      have hres : valErr symB t = 0 := by unfold valErr; rw [if_neg hc, if_pos hv]
      refine s_skip ?_
      refine sSeq_normal ?_
      refine s_seq ?_
      refine s_ops ?_
      refine o_mov rfl rfl ?_
      refine o_nil ?_
      refine sSeq_normal ?_
      refine s_ret ?_
      refine sRet_ret [_] ⟨rfl, trivial⟩ ?_
      show I64 _ = _
      rw [hres]
      first | rfl | done

include hE in
theorem what_spec {t : List Node} (hp : 0 < t.length) (H : Hp) (ob : Option Addr) (cap : Nat) (hsl : SlE H 6 ob (t.map Node.cells)) : Sc E 22 [.slice ob t.length cap] H [] fun v _ => v = I64 (whatOf t[0]) := by
  have hg := hsl.get (i := 0) (by simpa using hp)
  have hcell : H.cell? ⟨(adr ob 6 0).block, (adr ob 6 0).off + 0, none⟩ = some (I64 t[0].kind) := hsl.cell (i := 0) (j := 0) (by simpa using hp) (by simp [Node.cells])
  refine sc_body hE.h22 rfl ?_
  show Ss E _ _ _ c22.body _ _ _
  unfold c22
  refine s_seq ?_
  refine s_ops ?_
  refine o_mov rfl rfl ?_
  refine o_nil ?_
  refine sSeq_normal ?_
  refine s_seq ?_
  refine s_seq ?_
  refine s_ops ?_
  refine o_mov rfl rfl ?_
  refine o_iad (i := 0) rfl rfl hp hg.1 rfl ?_
  refine o_fad rfl rfl ?_
  refine o_ld1_old rfl hg.2.1 (by simp) hcell rfl ?_
  refine o_bin rfl rfl rfl rfl ?_
  refine o_mov rfl rfl ?_
  refine g_mov (by first | exact wanted_b rfl | exact wanted_g rfl) (by first | exact evG rfl | exact evG2 rfl | exact evG3 rfl | exact fun _ => rfl) rfl ?_
  refine g_iad (i := 0) (by first | exact wanted_b rfl | exact wanted_g rfl) (by first | exact evG rfl | exact evG2 rfl | exact evG3 rfl | exact fun _ => rfl) (by first | exact evG rfl | exact evG2 rfl | exact evG3 rfl | exact fun _ => rfl) (fun _ => hp) (fun _ => hg.1) rfl ?_
  refine g_fad (by first | exact wanted_b rfl | exact wanted_g rfl) (by first | exact evG rfl | exact evG2 rfl | exact evG3 rfl | exact fun _ => rfl) rfl ?_
  refine o_when (by first | exact wanted_b rfl | exact wanted_g rfl) (v := I64 t[0].kind) (fun hw F H1 hF hH => ?_) rfl ?_
  · show memOp F H1 (.ld1 _) = _
    have hx := hF.ev (evG (x := .tmp 11) (w := ((t[0].kind == 8) == false)) rfl hw)
    have hcell1 : H1.cell? ⟨(adr ob 6 0).block, (adr ob 6 0).off + 0, none⟩ = some (I64 t[0].kind) := by
      rw [← hcell]; simp only [Hp.cell?, hH.old _ hg.2.1 (by simp)]
    simp only [memOp, hx, hcell1, Option.map_some]
  refine g_bin (by first | exact wanted_b rfl | exact wanted_g rfl) (by first | exact evG rfl | exact evG2 rfl | exact evG3 rfl | exact fun _ => rfl) (by first | exact evG rfl | exact evG2 rfl | exact evG3 rfl | exact fun _ => rfl) (fun _ => rfl) rfl ?_
  refine o_pickB rfl (by first | exact fun h => evG rfl (by rw [h]; rfl) | exact fun _ => rfl) (by first | exact fun h => evG rfl (by rw [h]; rfl) | exact fun _ => rfl) rfl ?_
  refine o_nil ?_
  refine sSeq_normal ?_
  refine s_cond rfl (fun hc0 => ?_) (fun hc0 => ?_)
  · have hk : t[0].kind = 8 ∨ t[0].kind = 6 := by simp at hc0; omega
    have hres : whatOf t[0] = 6 := by unfold whatOf; rw [if_pos hk]
    refine s_seq ?_
    refine s_ops ?_
    refine o_mov rfl rfl ?_
    refine o_nil ?_
    refine sSeq_normal ?_
    refine s_ret ?_
    refine sSeq_ret ?_
    refine sRet_ret [_] ⟨rfl, trivial⟩ ?_
    show I64 _ = _
    rw [hres]
    first | rfl | done
  · have hk : ¬ (t[0].kind = 8 ∨ t[0].kind = 6) := by simp at hc0; omega
    have hres : whatOf t[0] = t[0].kind := by unfold whatOf; rw [if_neg hk]
    refine s_skip ?_
    refine sSeq_normal ?_
    refine s_seq ?_
    refine s_ops ?_
    refine o_mov rfl rfl ?_
    refine o_iad (i := 0) rfl rfl hp hg.1 rfl ?_
    refine o_fad rfl rfl ?_
    refine o_ld1_old rfl hg.2.1 (by simp) hcell rfl ?_
    refine o_mov rfl rfl ?_
    refine o_nil ?_
    refine sSeq_normal ?_
    refine s_ret ?_
    refine sRet_ret [_] ⟨rfl, trivial⟩ ?_
    show I64 _ = _
    rw [hres]
    first | rfl | done

end Go.Proofs.YtfonnebpnobomaaDoor.W
namespace Go.Proofs.YtfonnebpnobomaaDoor.W
open Go Am code
set_option maxRecDepth 100000
set_option maxHeartbeats 4000000
set_option linter.unusedSimpArgs false
set_option linter.unusedVariables false
variable {E : Env} (hE : Has E)

def nodeEq (x y : Node) : Bool := (x.kind == y.kind) && ((x.kids == y.kids) && ((x.n == y.n) && ((x.s.toList == y.s.toList) && ((x.tag == y.tag) && ((x.ref == y.ref) && true)))))
theorem cellsEq_node (x y : Node) : cellsEq [0, 0, 0, 1, 0, 0] x.cells y.cells = some (nodeEq x y) := rfl
def eqFrom (a b : List Node) : Bool := match a, b with
  | [], [] => true
  | x :: a, y :: b => nodeEq x y && eqFrom a b
  | _, _ => false
theorem eqFrom_len : ∀ {a b : List Node}, a.length ≠ b.length → eqFrom a b = false := by
  intro a
  induction a with
  | nil => intro b h; cases b with
    | nil => exact absurd rfl h
    | cons y b => rfl
  | cons x a ih => intro b h; cases b with
    | nil => rfl
    | cons y b => simp only [eqFrom]; rw [ih (by simpa using h)]; simp
/-- more than is looked at -/
def largeB (t : List Node) : Bool := ((t.take 100).any fun x => decide (x.s.size > 60)) || (decide (t.length > 80) && decide (t.length < 1900)) || decide (t.length > 2020)

include hE in
theorem Equal_spec (a b : List Node) (hla : a.length ≤ 1000000000) (H : Hp) (oa ob : Option Addr) (ca cb : Nat) (ha : SlE H 6 oa (a.map Node.cells)) (hb : SlE H 6 ob (b.map Node.cells)) : Sc E 11 [.slice oa a.length ca, .slice ob b.length cb] H [] fun v _ => v = .bool (eqFrom a b) := by
  refine sc_body hE.h11 rfl ?_
  show Ss E _ _ _ c11.body _ _ _
  unfold c11
  refine s_seq ?_
  refine s_ops ?_
  refine o_mov rfl rfl ?_
  refine o_nil ?_
  refine sSeq_normal ?_
  refine s_seq ?_
  refine s_seq ?_
  refine s_ops ?_
  refine o_mov rfl rfl ?_
  refine o_lnl rfl rfl ?_
  refine o_mov rfl rfl ?_
  refine o_lnl rfl rfl ?_
  refine o_bin rfl rfl rfl rfl ?_
  refine o_nil ?_
  refine sSeq_normal ?_
  refine s_cond rfl (fun hc0 => ?_) (fun hc0 => ?_)
  · have hl : a.length ≠ b.length := by simp at hc0; omega
    have hres : eqFrom a b = false := eqFrom_len hl
    refine s_seq ?_
    refine s_ops ?_
    refine o_mov rfl rfl ?_
    refine o_nil ?_
    refine sSeq_normal ?_
    refine s_ret ?_
    refine sSeq_ret ?_
    refine sRet_ret [_] ⟨rfl, trivial⟩ ?_
    show Value.bool _ = _
    rw [hres]
    first | rfl | done
  · have hl : a.length = b.length := by simp at hc0; omega
    refine s_skip ?_
    refine sSeq_normal ?_
    refine s_seq ?_
    refine s_seq ?_
    refine s_ops ?_
    refine o_mov rfl rfl ?_
    refine o_nil ?_
    refine sSeq_normal ?_
    refine s_block ?_
    refine s_iter (α := Nat) (fun k => a.length - k) (fun k => [(0, .slice oa a.length ca), (1, .slice ob b.length cb), (5, I64 (k : Nat))]) (fun _ => []) (fun k => k ≤ a.length ∧ eqFrom (a.drop k) (b.drop k) = eqFrom a b) 0 (subCons rfl (subCons rfl (subCons rfl subNil))) (List.nil_sublist _) ⟨Nat.zero_le _, rfl⟩ ?_
    rintro k ⟨hk, hr⟩
    refine s_seq ?_
    refine s_seq ?_
    refine s_ops ?_
    refine o_mov rfl rfl ?_
    refine o_mov rfl rfl ?_
    refine o_lnl rfl rfl ?_
    refine o_bin rfl rfl rfl rfl ?_
    refine o_nil ?_
    refine sSeq_normal ?_
    refine s_cond rfl (fun hc1 => ?_) (fun hc1 => ?_)
    · have hk2 : k < a.length := by simp at hc1; exact hc1
      have hk3 : k < b.length := by omega
      have ga := ha.get (i := k) (by simpa using hk2)
      have gb := hb.get (i := k) (by simpa using hk3)
      obtain ⟨xx, hxx⟩ : ∃ xx, xx = a[k] := ⟨_, rfl⟩
      obtain ⟨yy, hyy⟩ : ∃ yy, yy = b[k] := ⟨_, rfl⟩
      have ga3 : H.cells? (adr oa 6 k) 6 = some xx.cells := by rw [hxx]; simpa using ga.2.2
      have gb3 : H.cells? (adr ob 6 k) 6 = some yy.cells := by rw [hyy]; simpa using gb.2.2
      rw [drop_cons hk2, drop_cons hk3, ← hxx, ← hyy] at hr
      simp only [eqFrom] at hr
      refine s_skip ?_
      refine sSeq_normal ?_
      refine s_seq ?_
      refine s_block ?_
      refine s_seq ?_
      refine s_draw [true, true, true, true, true, true, true, true, false] rfl ?_
      refine o_mov rfl rfl ?_
      refine o_mov rfl rfl ?_
      refine o_iad rfl rfl hk2 ga.1 rfl ?_
      refine o_ld_old rfl ga.2.1 (by simp) ga3 rfl ?_
      refine o_mov rfl rfl ?_
      refine o_mov rfl rfl ?_
      refine o_iad rfl rfl hk3 gb.1 rfl ?_
      refine o_ld_old rfl gb.2.1 (by simp) gb3 rfl ?_
      refine o_eqc rfl rfl (cellsEq_node xx yy) rfl ?_
      refine o_nil ?_
      refine sSeq_normal ?_
      refine s_cond rfl (fun hc2 => ?_) (fun hc2 => ?_)
      · have hn : nodeEq xx yy = false := by simpa using hc2
        have hres : eqFrom a b = false := by rw [← hr, hn]; rfl
        refine s_seq ?_
        refine s_ops ?_
        refine o_mov rfl rfl ?_
        refine o_nil ?_
        refine sSeq_normal ?_
        refine s_ret ?_
        refine sBlock_ret ?_
        refine sSeq_ret ?_
        refine sIter_ret ?_
        refine sBlock_ret ?_
        refine sSeq_ret ?_
        refine sRet_ret [_] ⟨rfl, trivial⟩ ?_
        show Value.bool _ = _
        rw [hres]
        first | rfl | done
      · have hn : nodeEq xx yy = true := by simpa using hc2
        rw [hn, Bool.true_and] at hr
        refine s_skip ?_
        refine sBlock_normal ?_
        refine sSeq_normal ?_
        refine s_ops ?_
        refine o_mov rfl rfl ?_
        refine o_bin (v := I64 (k + 1 : Nat)) rfl rfl (by simp only [binV, binInt, if_true]; rw [wrap64 (by omega) (by omega)]; rfl) rfl ?_
        refine o_mov rfl rfl ?_
        refine o_nil ?_
        exact sIter_next (k + 1) (by omega) (subCons rfl (subCons rfl (subCons rfl subNil))) (List.nil_sublist _) ⟨hk2, hr⟩
    · have hk2 : k = a.length := by simp at hc1; omega
      subst hk2
      have hres : eqFrom a b = true := by rw [← hr, List.drop_length, hl, List.drop_length]; rfl
      refine s_exit ?_
      refine sSeq_exit ?_
      refine sIter_exit ?_
      refine sBlock_exit ?_
      refine sSeq_normal ?_
      refine s_seq ?_
      refine s_ops ?_
      refine o_mov rfl rfl ?_
      refine o_nil ?_
      refine sSeq_normal ?_
      refine s_ret ?_
      refine sRet_ret [_] ⟨rfl, trivial⟩ ?_
      show Value.bool _ = _
      rw [hres]
      first | rfl | done

include hE in
theorem large_spec (t : List Node) (hlt : t.length ≤ 9223372036854775807) (H : Hp) (ob : Option Addr) (cap : Nat) (hsl : SlE H 6 ob (t.map Node.cells)) : Sc E 12 [.slice ob t.length cap] H [] fun v _ => v = .bool (largeB t) := by
  refine sc_body hE.h12 rfl ?_
  show Ss E _ _ _ c12.body _ _ _
  unfold c12
  refine s_seq ?_
  refine s_ops ?_
  refine o_mov rfl rfl ?_
  refine o_nil ?_
  refine sSeq_normal ?_
  refine s_seq ?_
  refine s_seq ?_
  refine s_ops ?_
  refine o_mov rfl rfl ?_
  refine o_nil ?_
  refine sSeq_normal ?_
  refine s_block ?_
  refine s_iter (α := Nat) (fun k => t.length - k) (fun k => [(0, .slice ob t.length cap), (3, I64 (k : Nat))]) (fun _ => []) (fun k => k ≤ t.length ∧ k ≤ 100 ∧ ((t.take k).any fun x => decide (x.s.size > 60)) = false) 0 (subCons rfl (subCons rfl subNil)) (List.nil_sublist _) ⟨Nat.zero_le _, Nat.zero_le _, by simp⟩ ?_
  rintro k ⟨hk, hk100, hr⟩
  refine s_seq ?_
  refine s_seq ?_
  refine s_ops ?_
  refine o_mov rfl rfl ?_
  refine o_mov rfl rfl ?_
  refine o_lnl rfl rfl ?_
  refine o_bin rfl rfl rfl rfl ?_
  refine o_mov rfl rfl ?_
  refine g_mov (by first | exact wanted_b rfl | exact wanted_g rfl) (by first | exact evG rfl | exact evG2 rfl | exact evG3 rfl | exact fun _ => rfl) rfl ?_
  refine g_bin (by first | exact wanted_b rfl | exact wanted_g rfl) (by first | exact evG rfl | exact evG2 rfl | exact evG3 rfl | exact fun _ => rfl) (by first | exact evG rfl | exact evG2 rfl | exact evG3 rfl | exact fun _ => rfl) (fun _ => rfl) rfl ?_
  refine o_pickB rfl (by first | exact fun h => evG rfl (by rw [h]; rfl) | exact fun _ => rfl) (by first | exact fun h => evG rfl (by rw [h]; rfl) | exact fun _ => rfl) rfl ?_
  refine o_nil ?_
  refine sSeq_normal ?_
  refine s_cond rfl (fun hc0 => ?_) (fun hc0 => ?_)
  · have hk2 : k < t.length ∧ k < 100 := by simp at hc0; omega
    obtain ⟨hk2, hk3⟩ := hk2
    have ga := hsl.get (i := k) (by simpa using hk2)
    obtain ⟨xx, hxx⟩ : ∃ xx, xx = t[k] := ⟨_, rfl⟩
    have hcell : H.cell? ⟨(adr ob 6 k).block, (adr ob 6 k).off + 3, none⟩ = some (.string xx.s) := hsl.cell (i := k) (j := 3) (by simpa using hk2) (by simp [Node.cells, hxx])
    have htk : t.take (k + 1) = t.take k ++ [xx] := by rw [hxx, List.take_succ_eq_append_getElem hk2]
    refine s_skip ?_
    refine sSeq_normal ?_
    refine s_seq ?_
    refine s_block ?_
    refine s_seq ?_
    refine s_ops ?_
    refine o_mov rfl rfl ?_
    refine o_mov rfl rfl ?_
    refine o_iad rfl rfl hk2 ga.1 rfl ?_
    refine o_fad rfl rfl ?_
    refine o_ld1_old rfl ga.2.1 (by simp) hcell rfl ?_
    refine o_lns rfl rfl ?_
    refine o_bin rfl rfl rfl rfl ?_
    refine o_nil ?_
    refine sSeq_normal ?_
    refine s_cond rfl (fun hc1 => ?_) (fun hc1 => ?_)
    · have hs : xx.s.size > 60 := by simp at hc1; omega
      have hres : largeB t = true := by
        have hm : xx ∈ t.take 100 := by
          have h1 : xx ∈ t.take (k + 1) := by rw [htk]; simp
          exact (List.take_sublist_take_left (by omega)).subset h1
        have : ((t.take 100).any fun x => decide (x.s.size > 60)) = true := List.any_eq_true.2 ⟨xx, hm, by simpa using hs⟩
        unfold largeB; rw [this]; rfl
      refine s_seq ?_
      refine s_ops ?_
      refine o_mov rfl rfl ?_
      refine o_nil ?_
      refine sSeq_normal ?_
      refine s_ret ?_
      refine sBlock_ret ?_
      refine sSeq_ret ?_
      refine sIter_ret ?_
      refine sBlock_ret ?_
      refine sSeq_ret ?_
      refine sRet_ret [_] ⟨rfl, trivial⟩ ?_
      show Value.bool _ = _
      first
        | (rw [hres]; done)
        | (rw [hres]; rfl)
        | (unfold largeB
           rw [hany]
           congr 1
           by_cases h1 : t.length > 80 <;> by_cases h2 : t.length < 1900 <;> by_cases h3 : t.length > 2020 <;> simp [h1, h2, h3] <;> omega)
    · have hs : ¬ xx.s.size > 60 := by simp at hc1; omega
      refine s_skip ?_
      refine sBlock_normal ?_
      refine sSeq_normal ?_
      refine s_ops ?_
      refine o_mov rfl rfl ?_
      refine o_bin (v := I64 (k + 1 : Nat)) rfl rfl (by simp only [binV, binInt, if_true]; rw [wrap64 (by omega) (by omega)]; rfl) rfl ?_
      refine o_mov rfl rfl ?_
      refine o_nil ?_
      exact sIter_next (k + 1) (by omega) (subCons rfl (subCons rfl subNil)) (List.nil_sublist _) ⟨hk2, hk3, by rw [htk, List.any_append, hr]; simpa using hs⟩
  · have hk2 : k = t.length ∨ k = 100 := by simp at hc0; omega
    have hany : ((t.take 100).any fun x => decide (x.s.size > 60)) = false := by
      rcases hk2 with e | e
      · rw [e, List.take_length] at hr
        cases hh : (t.take 100).any fun x => decide (x.s.size > 60) with
        | false => rfl
        | true =>
          obtain ⟨x, h1, h2⟩ := List.any_eq_true.1 hh
          have : (t.any fun x => decide (x.s.size > 60)) = true := List.any_eq_true.2 ⟨x, List.mem_of_mem_take h1, h2⟩
          rw [hr] at this; cases this
      · rw [← e]; exact hr
    refine s_exit ?_
    refine sSeq_exit ?_
    refine sIter_exit ?_
    refine sBlock_exit ?_
    refine sSeq_normal ?_
    refine s_seq ?_
    refine s_ops ?_
    refine o_mov rfl rfl ?_
    refine o_lnl rfl rfl ?_
    refine o_bin rfl rfl rfl rfl ?_
    refine o_mov rfl rfl ?_
    refine g_mov (by first | exact wanted_b rfl | exact wanted_g rfl) (by first | exact evG rfl | exact evG2 rfl | exact evG3 rfl | exact fun _ => rfl) rfl ?_
    refine g_lnl (by first | exact wanted_b rfl | exact wanted_g rfl) (by first | exact evG rfl | exact evG2 rfl | exact evG3 rfl | exact fun _ => rfl) rfl ?_
    refine g_bin (by first | exact wanted_b rfl | exact wanted_g rfl) (by first | exact evG rfl | exact evG2 rfl | exact evG3 rfl | exact fun _ => rfl) (by first | exact evG rfl | exact evG2 rfl | exact evG3 rfl | exact fun _ => rfl) (fun _ => rfl) rfl ?_
    refine o_pickB rfl (by first | exact fun h => evG rfl (by rw [h]; rfl) | exact fun _ => rfl) (by first | exact fun h => evG rfl (by rw [h]; rfl) | exact fun _ => rfl) rfl ?_
    refine o_mov rfl rfl ?_
    refine g_mov (by first | exact wanted_b rfl | exact wanted_g rfl) (by first | exact evG rfl | exact evG2 rfl | exact evG3 rfl | exact fun _ => rfl) rfl ?_
    refine g_lnl (by first | exact wanted_b rfl | exact wanted_g rfl) (by first | exact evG rfl | exact evG2 rfl | exact evG3 rfl | exact fun _ => rfl) rfl ?_
    refine g_bin (by first | exact wanted_b rfl | exact wanted_g rfl) (by first | exact evG rfl | exact evG2 rfl | exact evG3 rfl | exact fun _ => rfl) (by first | exact evG rfl | exact evG2 rfl | exact evG3 rfl | exact fun _ => rfl) (fun _ => rfl) rfl ?_
    refine o_pickB rfl (by first | exact fun h => evG rfl (by rw [h]; rfl) | exact fun _ => rfl) (by first | exact fun h => evG rfl (by rw [h]; rfl) | exact fun _ => rfl) rfl ?_
    refine o_mov rfl rfl ?_
    refine o_nil ?_
    refine sSeq_normal ?_
    refine s_ret ?_
    refine sRet_ret [_] ⟨rfl, trivial⟩ ?_
    show Value.bool _ = _
    first
      | (rw [hres]; done)
      | (rw [hres]; rfl)
      | (unfold largeB
         rw [hany]
         congr 1
         by_cases h1 : t.length > 80 <;> by_cases h2 : t.length < 1900 <;> by_cases h3 : t.length > 2020 <;> simp [h1, h2, h3] <;> omega)

end Go.Proofs.YtfonnebpnobomaaDoor.W
namespace Go.Proofs.YtfonnebpnobomaaDoor.W
open Go Am code
set_option maxRecDepth 100000
set_option maxHeartbeats 4000000
set_option linter.unusedSimpArgs false
set_option linter.unusedVariables false
variable {E : Env} (hE : Has E)

/-- a list that the call has made -/
def NewL (rv : Value) (t : List Node) (M : Ms) : Prop := (rv = .slice none 0 0 ∧ t = []) ∨ ∃ b sp cap row, rv = .slice (some ⟨b, 0, sp⟩) t.length cap ∧ (b, Blk.row row true) ∈ M ∧ t.length ≤ cap ∧ ∃ rest, row = (t.map Node.cells).flatten ++ rest
theorem NewL.mono {rv : Value} {t : List Node} {M M' : Ms} (h : NewL rv t M) (hs : ∀ x ∈ M, x ∈ M') : NewL rv t M' := by
  rcases h with h | ⟨b, sp, cap, row, h1, h2, h3⟩
  · exact .inl h
  · exact .inr ⟨b, sp, cap, row, h1, hs _ h2, h3⟩
/-- what a primitive returns: a term, a place, an error -/
def ResIs (v : Value) (r : List Node × Int × Int) (M : Ms) : Prop := ∃ rv, v = .agg ⟨[rv, I64 r.2.1, I64 r.2.2]⟩ ∧ NewL rv r.1 M
def mkInt (z : Int) : Node := ⟨1, 0, z, ⟨#[]⟩, 0, 0⟩
def mkBool (p : Bool) : Node := ⟨2, 0, if p then 1 else 0, ⟨#[]⟩, 0, 0⟩
def numberR (z : Int) (fits : Bool) : List Node × Int × Int := if fits then ([mkInt z], 0, 0) else ([], 0, 20)
def truthR (p : Bool) : List Node × Int × Int := ([mkBool p], 0, 0)
def w64 (z : Int) : Int := IntKind.wrap .i64 z
def sumR (a b : Int) : List Node × Int × Int := numberR (w64 (a + b)) ((decide (a < 0) != decide (b < 0)) || (decide (w64 (a + b) < 0) == decide (a < 0)))
def diffR (a b : Int) : List Node × Int × Int := numberR (w64 (a - b)) ((decide (a < 0) == decide (b < 0)) || (decide (w64 (a - b) < 0) == decide (a < 0)))
def remR (a b : Int) : List Node × Int × Int := if b = 0 then ([], 1, 21) else numberR (a.tmod b) true
def quoR (a b : Int) : List Node × Int × Int := if b = 0 then ([], 1, 21) else numberR (w64 (a.tdiv b)) (a != -9223372036854775808 || b != -1)

include hE in
theorem number_spec (z : Int) (fits : Bool) (H : Hp) : Sc E 49 [I64 z, .bool fits] H [] fun v M => ResIs v (numberR z fits) M := by
  refine sc_body hE.h49 rfl ?_
  show Ss E _ _ _ c49.body _ _ _
  unfold c49
  refine s_seq ?_
  refine s_ops ?_
  refine o_newz rfl (fun b0 => ?_)
  refine o_nil ?_
  refine sSeq_normal ?_
  refine s_seq ?_
  refine s_seq ?_
  refine s_ops ?_
  refine o_mov rfl rfl ?_
  refine o_un rfl rfl rfl ?_
  refine o_nil ?_
  refine sSeq_normal ?_
  refine s_cond rfl (fun hc0 => ?_) (fun hc0 => ?_)
  · have hf : fits = false := by simpa using hc0
    subst hf
    refine s_seq ?_
    refine s_ops ?_
    refine o_agg (c := [.slice none 0 0, I64 0, I64 20]) (fun F hF => rfl) rfl ?_
    refine o_stN (M1 := []) (cn := [.slice none 0 0, I64 0, I64 20]) rfl rfl rfl rfl (by show 0 + 3 ≤ 3; exact Nat.le_refl _) rfl rfl ?_
    refine o_nil ?_
    refine sSeq_normal ?_
    refine s_ret ?_
    refine sSeq_ret ?_
    refine sRet_ret [_] ⟨⟨_, _, _, rfl, (by first | exact .head _ | exact .tail _ (.head _) | exact .tail _ (.tail _ (.head _)) | exact .tail _ (.tail _ (.tail _ (.head _))) | exact .tail _ (.tail _ (.tail _ (.tail _ (.head _))))), Nat.le_of_ble_eq_true rfl, rfl⟩, trivial⟩ ?_
    first | exact ⟨_, rfl, .inl ⟨rfl, rfl⟩⟩ | exact ⟨_, rfl, .inr ⟨b7, _, _, _, rfl, .head _, Nat.le_refl _, [], rfl⟩⟩
  · have hf : fits = true := by simpa using hc0
    subst hf
    refine s_skip ?_
    refine sSeq_normal ?_
    refine s_seq ?_
    refine s_ops ?_
    refine o_mov rfl rfl ?_
    refine o_agg (c := (mkInt z).cells) (fun F hF => by simp only [List.map, hF.ev (x := .tmp 8) rfl]; rfl) rfl ?_
    refine o_lits (c := (mkInt z).cells) (fun F hF => by simp only [List.map, hF.ev (x := .tmp 9) rfl]; rfl) rfl (fun b7 => ?_)
    refine o_agg (c := [.slice (some ⟨b7, 0, some 0⟩) 1 1, I64 0, I64 0]) (fun F hF => by simp only [List.map, hF.ev (x := .tmp 10) rfl]; rfl) rfl ?_
    refine o_stN (M1 := [(b7, .row (mkInt z).cells true)]) (cn := [.slice (some ⟨b7, 0, some 0⟩) 1 1, I64 0, I64 0]) rfl rfl rfl rfl (by show 0 + 3 ≤ 3; exact Nat.le_refl _) rfl rfl ?_
    refine o_nil ?_
    refine sSeq_normal ?_
    refine s_ret ?_
    refine sRet_ret [_] ⟨⟨_, _, _, rfl, (by first | exact .head _ | exact .tail _ (.head _) | exact .tail _ (.tail _ (.head _)) | exact .tail _ (.tail _ (.tail _ (.head _))) | exact .tail _ (.tail _ (.tail _ (.tail _ (.head _))))), Nat.le_of_ble_eq_true rfl, rfl⟩, trivial⟩ ?_
    first | exact ⟨_, rfl, .inl ⟨rfl, rfl⟩⟩ | exact ⟨_, rfl, .inr ⟨b7, _, _, _, rfl, .head _, Nat.le_refl _, [], rfl⟩⟩

end Go.Proofs.YtfonnebpnobomaaDoor.W
namespace Go.Proofs.YtfonnebpnobomaaDoor.W
open Go Am code
set_option maxRecDepth 100000
set_option maxHeartbeats 4000000
set_option linter.unusedSimpArgs false
set_option linter.unusedVariables false
variable {E : Env} (hE : Has E)
end Go.Proofs.YtfonnebpnobomaaDoor.W
namespace Go.Proofs.YtfonnebpnobomaaDoor.W
open Go Am code
set_option maxRecDepth 100000
set_option maxHeartbeats 4000000
set_option linter.unusedSimpArgs false
set_option linter.unusedVariables false
variable {E : Env} (hE : Has E)
include hE in
theorem truth_spec (p : Bool) (H : Hp) : Sc E 28 [.bool p] H [] fun v M => ResIs v (truthR p) M := by
  refine sc_body hE.h28 rfl ?_
  show Ss E _ _ _ c28.body _ _ _
  unfold c28
  refine s_seq ?_
  refine s_ops ?_
  refine o_newz rfl (fun b0 => ?_)
  refine o_nil ?_
  refine sSeq_normal ?_
  refine s_seq ?_
  refine s_ops ?_
  refine o_agg (c := (mkBool false).cells) (fun F hF => rfl) rfl ?_
  refine o_lits (c := (mkBool false).cells) (fun F hF => by simp only [List.map, hF.ev (x := .tmp 4) rfl]; rfl) rfl (fun b2 => ?_)
  refine o_mov rfl rfl ?_
  refine o_nil ?_
  refine sSeq_normal ?_
  refine s_mid (α := Unit) (fun _ => [(2, .pointer (some ⟨b0, 0, none⟩)), (3, .slice (some ⟨b2, 0, some 0⟩) 1 1)]) (fun _ => [(b2, .row (mkBool p).cells true), (b0, .row [.slice none 0 0, I64 0, I64 0] true)]) (fun _ => True) ?_ ?_
  · skip
    refine s_seq ?_
    refine s_ops ?_
    refine o_mov rfl rfl ?_
    refine o_nil ?_
    refine sSeq_normal ?_
    refine s_cond rfl (fun hc0 => ?_) (fun hc0 => ?_)
    · have hp : p = true := hc0
      refine s_ops ?_
      refine o_mov rfl rfl ?_
      refine o_iad (i := 0) rfl rfl (by decide) rfl rfl ?_
      refine o_fad rfl rfl ?_
      refine o_stN (M1 := []) (cn := (mkBool true).cells) rfl rfl rfl rfl (by show 2 + 1 ≤ 6; decide) rfl rfl ?_
      refine o_nil ?_
      exact sMid_normal () (subCons rfl (subCons rfl subNil)) (by first | (subst hp; exact .refl _)) trivial
    · have hp : p = false := hc0
      refine s_skip ?_
      exact sMid_normal () (subCons rfl (subCons rfl subNil)) (by first | (subst hp; exact .refl _)) trivial
  · rintro _ _
    refine s_seq ?_
    refine s_ops ?_
    refine o_mov rfl rfl ?_
    refine o_agg (c := [.slice (some ⟨b2, 0, some 0⟩) 1 1, I64 0, I64 0]) (fun F hF => by simp only [List.map, hF.ev (x := .tmp 10) rfl]; rfl) rfl ?_
    refine o_stN (M1 := [(b2, .row (mkBool p).cells true)]) (cn := [.slice (some ⟨b2, 0, some 0⟩) 1 1, I64 0, I64 0]) rfl rfl rfl rfl (by show 0 + 3 ≤ 3; exact Nat.le_refl _) rfl rfl ?_
    refine o_nil ?_
    refine sSeq_normal ?_
    refine s_ret ?_
    refine sRet_ret [_] ⟨⟨_, _, _, rfl, (by first | exact .head _ | exact .tail _ (.head _) | exact .tail _ (.tail _ (.head _)) | exact .tail _ (.tail _ (.tail _ (.head _))) | exact .tail _ (.tail _ (.tail _ (.tail _ (.head _))))), Nat.le_of_ble_eq_true rfl, rfl⟩, trivial⟩ ?_
    exact ⟨_, rfl, .inr ⟨b2, _, _, _, rfl, .head _, Nat.le_refl _, [], by simp [truthR, mkBool, Node.cells]⟩⟩

end Go.Proofs.YtfonnebpnobomaaDoor.W
namespace Go.Proofs.YtfonnebpnobomaaDoor.W
open Go Am code
set_option maxRecDepth 100000
set_option maxHeartbeats 4000000
set_option linter.unusedSimpArgs false
set_option linter.unusedVariables false
variable {E : Env} (hE : Has E)
include hE in
theorem opEq_spec (sv : Value) (hsv : oneCell sv = true) (a b : Int) (H : Hp) : Sc E 34 [.agg ⟨[sv, I64 a, I64 b]⟩] H [] fun v M => ResIs v (truthR (a == b)) M := by
  refine sc_body hE.h34 rfl ?_
  show Ss E _ _ _ c34.body _ _ _
  unfold c34
  refine s_seq ?_
  refine s_ops ?_
  refine o_box (c := [sv, I64 a, I64 b]) rfl rfl rfl (fun b0 => ?_)
  refine o_newz rfl (fun b1 => ?_)
  refine o_nil ?_
  refine sSeq_normal ?_
  refine s_seq ?_
  refine s_ops ?_
  refine o_fad rfl rfl ?_
  refine o_ld1 rfl (by first | exact .head _ | exact .tail _ (.head _) | exact .tail _ (.tail _ (.head _)) | exact .tail _ (.tail _ (.tail _ (.head _))) | exact .tail _ (.tail _ (.tail _ (.tail _ (.head _))))) rfl rfl ?_
  refine o_fad rfl rfl ?_
  refine o_ld1 rfl (by first | exact .head _ | exact .tail _ (.head _) | exact .tail _ (.tail _ (.head _)) | exact .tail _ (.tail _ (.tail _ (.head _))) | exact .tail _ (.tail _ (.tail _ (.tail _ (.head _))))) rfl rfl ?_
  refine o_bin rfl rfl rfl rfl ?_
  refine o_call1 rfl (ha1 rfl) rfl (fun H1 hH1 => (truth_spec hE (a == b) H1).mono ?_)
  rintro v M1 ⟨rv, rfl, hnew⟩
  refine o_stN (M1 := M1) (M2 := [(b0, .row [sv, I64 a, I64 b] true)]) (cn := [rv, I64 0, I64 0]) rfl rfl rfl rfl (by show 0 + 3 ≤ 3; exact Nat.le_refl _) (by rcases hnew with ⟨h, _⟩ | ⟨_, _, _, _, h, _⟩ <;> rw [h] <;> rfl) rfl ?_
  refine o_nil ?_
  refine sSeq_normal ?_
  refine s_ret ?_
  refine sRet_ret [_] ⟨⟨_, _, _, rfl, List.mem_append_right _ (.head _), Nat.le_refl _, rfl⟩, trivial⟩ ?_
  exact ⟨rv, rfl, hnew.mono (fun x hx => List.mem_append_left _ hx)⟩

include hE in
theorem opLt_spec (sv : Value) (hsv : oneCell sv = true) (a b : Int) (H : Hp) : Sc E 35 [.agg ⟨[sv, I64 a, I64 b]⟩] H [] fun v M => ResIs v (truthR (decide (a < b))) M := by
  refine sc_body hE.h35 rfl ?_
  show Ss E _ _ _ c35.body _ _ _
  unfold c35
  refine s_seq ?_
  refine s_ops ?_
  refine o_box (c := [sv, I64 a, I64 b]) rfl rfl rfl (fun b0 => ?_)
  refine o_newz rfl (fun b1 => ?_)
  refine o_nil ?_
  refine sSeq_normal ?_
  refine s_seq ?_
  refine s_ops ?_
  refine o_fad rfl rfl ?_
  refine o_ld1 rfl (by first | exact .head _ | exact .tail _ (.head _) | exact .tail _ (.tail _ (.head _)) | exact .tail _ (.tail _ (.tail _ (.head _))) | exact .tail _ (.tail _ (.tail _ (.tail _ (.head _))))) rfl rfl ?_
  refine o_fad rfl rfl ?_
  refine o_ld1 rfl (by first | exact .head _ | exact .tail _ (.head _) | exact .tail _ (.tail _ (.head _)) | exact .tail _ (.tail _ (.tail _ (.head _))) | exact .tail _ (.tail _ (.tail _ (.tail _ (.head _))))) rfl rfl ?_
  refine o_bin rfl rfl rfl rfl ?_
  refine o_call1 rfl (ha1 rfl) rfl (fun H1 hH1 => (truth_spec hE (decide (a < b)) H1).mono ?_)
  rintro v M1 ⟨rv, rfl, hnew⟩
  refine o_stN (M1 := M1) (M2 := [(b0, .row [sv, I64 a, I64 b] true)]) (cn := [rv, I64 0, I64 0]) rfl rfl rfl rfl (by show 0 + 3 ≤ 3; exact Nat.le_refl _) (by rcases hnew with ⟨h, _⟩ | ⟨_, _, _, _, h, _⟩ <;> rw [h] <;> rfl) rfl ?_
  refine o_nil ?_
  refine sSeq_normal ?_
  refine s_ret ?_
  refine sRet_ret [_] ⟨⟨_, _, _, rfl, List.mem_append_right _ (.head _), Nat.le_refl _, rfl⟩, trivial⟩ ?_
  exact ⟨rv, rfl, hnew.mono (fun x hx => List.mem_append_left _ hx)⟩

include hE in
theorem mkN_spec (z : Int) (H : Hp) : Sc E 7 [I64 z] H [] fun v M => NewL v [mkInt z] M := by
  refine sc_body hE.h7 rfl ?_
  show Ss E _ _ _ c7.body _ _ _
  unfold c7
  refine s_seq ?_
  refine s_ops ?_
  refine o_mov rfl rfl ?_
  refine o_nil ?_
  refine sSeq_normal ?_
  refine s_seq ?_
  refine s_ops ?_
  refine o_mov rfl rfl ?_
  refine o_agg (c := (mkInt z).cells) (fun F hF => by simp only [List.map, hF.ev (x := .tmp 3) rfl]; rfl) rfl ?_
  refine o_lits (c := (mkInt z).cells) (fun F hF => by simp only [List.map, hF.ev (x := .tmp 4) rfl]; rfl) rfl (fun b3 => ?_)
  refine o_mov rfl rfl ?_
  refine o_nil ?_
  refine sSeq_normal ?_
  refine s_ret ?_
  refine sRet_ret [_] ⟨rfl, trivial⟩ ?_
  exact .inr ⟨b3, _, _, _, rfl, .head _, Nat.le_refl _, [], by simp⟩

include hE in
theorem mkB_spec (z : Int) (H : Hp) : Sc E 15 [I64 z] H [] fun v M => NewL v [(⟨2, 0, z, ⟨#[]⟩, 0, 0⟩ : Node)] M := by
  refine sc_body hE.h15 rfl ?_
  show Ss E _ _ _ c15.body _ _ _
  unfold c15
  refine s_seq ?_
  refine s_ops ?_
  refine o_mov rfl rfl ?_
  refine o_nil ?_
  refine sSeq_normal ?_
  refine s_seq ?_
  refine s_ops ?_
  refine o_mov rfl rfl ?_
  refine o_agg (c := ((⟨2, 0, z, ⟨#[]⟩, 0, 0⟩ : Node)).cells) (fun F hF => by simp only [List.map, hF.ev (x := .tmp 3) rfl]; rfl) rfl ?_
  refine o_lits (c := ((⟨2, 0, z, ⟨#[]⟩, 0, 0⟩ : Node)).cells) (fun F hF => by simp only [List.map, hF.ev (x := .tmp 4) rfl]; rfl) rfl (fun b3 => ?_)
  refine o_mov rfl rfl ?_
  refine o_nil ?_
  refine sSeq_normal ?_
  refine s_ret ?_
  refine sRet_ret [_] ⟨rfl, trivial⟩ ?_
  exact .inr ⟨b3, _, _, _, rfl, .head _, Nat.le_refl _, [], by simp⟩

end Go.Proofs.YtfonnebpnobomaaDoor.W
namespace Go.Proofs.YtfonnebpnobomaaDoor.W
open Go Am code
set_option maxRecDepth 100000
set_option maxHeartbeats 4000000
set_option linter.unusedSimpArgs false
set_option linter.unusedVariables false
variable {E : Env} (hE : Has E)

theorem newE_newL {v : Value} {t : List Node} {M : Ms} (h : NewE 6 v (t.map Node.cells) M) : NewL v t M := by
  obtain ⟨b, sp, cap, row, h1, h2, h3⟩ := h
  exact .inr ⟨b, sp, cap, row, by rw [h1, List.length_map], h2, by simpa using h3.1, h3.2⟩
theorem cells_one (t : List Node) : (t.map Node.cells).flatten.all oneCell = true := by
  rw [List.all_eq_true]
  intro v hv
  simp only [List.mem_flatten, List.mem_map] at hv
  obtain ⟨l, ⟨x, _, rfl⟩, h⟩ := hv
  simp only [Node.cells, List.mem_cons, List.not_mem_nil, or_false] at h
  rcases h with rfl | rfl | rfl | rfl | rfl | rfl <;> rfl

include hE in
theorem clone_spec (t : List Node) (hlt : t.length ≤ 1000000000) (H : Hp) (ob : Option Addr) (cap : Nat) (hsl : SlE H 6 ob (t.map Node.cells)) : Sc E 54 [.slice ob t.length cap] H [] fun v M => NewL v t M := by
  refine sc_body hE.h54 rfl ?_
  show Ss E _ _ _ c54.body _ _ _
  unfold c54
  refine s_seq ?_
  refine s_ops ?_
  refine o_mov rfl rfl ?_
  refine o_nil ?_
  refine sSeq_normal ?_
  refine s_seq ?_
  refine s_seq ?_
  refine s_ops ?_
  refine o_mov rfl rfl ?_
  refine o_eqnil rfl rfl ?_
  refine o_nil ?_
  refine sSeq_normal ?_
  refine s_cond rfl (fun hc0 => ?_) (fun hc0 => ?_)
  · have ht : t = [] := by
      cases t with
      | nil => rfl
      | cons x t =>
        obtain ⟨a, h, _⟩ := hsl.all (by simp)
        rw [h] at hc0; cases hc0
    refine s_seq ?_
    refine s_ops ?_
    refine o_mov rfl rfl ?_
    refine o_nil ?_
    refine sSeq_normal ?_
    refine s_ret ?_
    refine sSeq_ret ?_
    refine sRet_ret [_] ⟨rfl, trivial⟩ ?_
    first | exact .inl ⟨rfl, ht⟩ | exact newE_newL hv
  · skip
    refine s_skip ?_
    refine sSeq_normal ?_
    refine s_seq ?_
    refine s_ops ?_
    refine o_lits (c := []) (fun F hF => rfl) rfl (fun b4 => ?_)
    refine o_mov rfl rfl ?_
    refine o_copy (es := t.map Node.cells) (cap := cap) (ob := ob) rfl (by rw [List.length_map]; rfl) (by decide) hsl (fun _ _ => by simp) (cells_one t) (by rw [List.length_map]; omega) rfl rfl (fun v M hv _ => ?_)
    refine o_mov rfl rfl ?_
    refine o_nil ?_
    refine sSeq_normal ?_
    refine s_ret ?_
    refine sRet_ret [_] ⟨rfl, trivial⟩ ?_
    first | exact .inl ⟨rfl, ht⟩ | exact newE_newL hv

end Go.Proofs.YtfonnebpnobomaaDoor.W
namespace Go.Proofs.YtfonnebpnobomaaDoor.W
open Go Am code
set_option maxRecDepth 100000
set_option maxHeartbeats 4000000
set_option linter.unusedSimpArgs false
set_option linter.unusedVariables false
variable {E : Env} (hE : Has E)
variable (symB : ByteArray → Bool)

theorem check_ok {t : List Node} {named : Bool} (h : (check symB t named).2 = 0) : Whole t ∧ (∀ x ∈ t, 0 ≤ x.kids) ∧ (∀ x ∈ t, rangeBad x = false) ∧ t.length ≤ 2000 := by
  unfold check at h
  split at h
  · cases h
  · rename_i h0
    split at h
    · cases h
    · rename_i h1
      split at h
      · rename_i r hr
        exfalso
        have key : ∀ (u : List Node) (i : Nat) (st : List Int) (r : Nat × Int), chkGo symB named u i st = .inl r → r.2 ≠ 0 := by
          intro u
          induction u with
          | nil => intro i st r h; cases h
          | cons x u ih =>
            intro i st r h
            simp only [chkGo] at h
            split at h
            · cases h; simp
            · split at h
              · cases h; simp
              · split at h
                · cases h; simp
                · split at h
                  · cases h; simp
                  · split at h
                    · rename_i hn; cases h; exact hn
                    · exact ih _ _ _ h
        exact key _ _ _ _ hr h
      · rename_i st hst
        by_cases hm : maxL st.reverse > 0
        · rw [if_pos hm] at h; cases h
        · obtain ⟨g1, g2, g3⟩ := chk_whole symB named hst hm
          exact ⟨g1, g2, g3, by omega⟩
theorem form_ok {t : List Node} (h : (form symB t).2 = 0) : Whole t ∧ (∀ x ∈ t, 0 ≤ x.kids) ∧ (∀ x ∈ t, rangeBad x = false) ∧ t.length ≤ 2000 := by
  unfold form at h
  split at h
  · rename_i h1; exact check_ok symB h1
  · exact check_ok symB h
theorem place_ok {t : List Node} {i : Int} (h : place symB t i = 0) : (form symB t).2 = 0 ∧ 0 ≤ i ∧ i < t.length := by
  unfold place at h
  split at h
  · rename_i h1; exact absurd h h1
  · rename_i h1
    split at h
    · cases h
    · exact ⟨Decidable.not_not.1 h1, by omega, by omega⟩
/-- a part of a term -/
def subT (t : List Node) (i : Nat) : List Node := (t.drop i).take (sizeAt t i)
def subR (t : List Node) (i : Nat) : List Node × Int := if place symB t i ≠ 0 then ([], place symB t i) else (subT t i, 0)

include hE in
theorem Sub_spec {t : List Node} (ht : TermOK t) (i : Nat) (H : Hp) (hsym : SymsOK E symB t H) (ob : Option Addr) (cap : Nat) (hcap : t.length ≤ cap) (hsl : SlE H 6 ob (t.map Node.cells)) : Sc E 53 [.slice ob t.length cap, I64 (i : Nat)] H [] fun v M => ∃ w, v = .tuple ⟨[w, I64 (subR symB t i).2]⟩ ∧ NewL w (subR symB t i).1 M := by
  refine sc_body hE.h53 rfl ?_
  show Ss E _ _ _ c53.body _ _ _
  unfold c53
  refine s_seq ?_
  refine s_ops ?_
  refine o_mov rfl rfl ?_
  refine o_mov rfl rfl ?_
  refine o_nil ?_
  refine sSeq_normal ?_
  refine s_seq ?_
  refine s_seq ?_
  refine s_ops ?_
  refine o_mov rfl rfl ?_
  refine o_mov rfl rfl ?_
  refine o_call0 (v := I64 (place symB t i)) rfl (ha2 rfl rfl) rfl (fun H1 hH1 => place_spec hE symB ht i H1 (hsym.mono hH1) ob cap (hsl.mono hH1 (fun _ _ h => (by cases h)))) ?_
  refine o_mov rfl rfl ?_
  refine o_nil ?_
  refine sSeq_normal ?_
  refine s_seq ?_
  refine s_ops ?_
  refine o_mov rfl rfl ?_
  refine o_bin rfl rfl rfl rfl ?_
  refine o_nil ?_
  refine sSeq_normal ?_
  refine s_cond rfl (fun hc0 => ?_) (fun hc0 => ?_)
  · have hc : place symB t i ≠ 0 := by simpa using hc0
    have hres : subR symB t i = ([], place symB t i) := by unfold subR; rw [if_pos hc]
    refine s_seq ?_
    refine s_ops ?_
    refine o_mov rfl rfl ?_
    refine o_mov rfl rfl ?_
    refine o_mov rfl rfl ?_
    refine o_nil ?_
    refine sSeq_normal ?_
    refine s_ret ?_
    refine sSeq_ret ?_
    refine sRet_ret [_, _] ⟨rfl, rfl, trivial⟩ ?_
    rw [hres]
    first | exact ⟨_, rfl, .inl ⟨rfl, rfl⟩⟩ | exact ⟨_, rfl, hnew.mono (fun x hx => List.mem_append_left _ hx)⟩
  · have hc : ¬ place symB t i ≠ 0 := by simpa using hc0
    have hres : subR symB t i = (subT t i, 0) := by unfold subR; rw [if_neg hc]
    obtain ⟨hf, _, hi0⟩ := place_ok symB (Decidable.not_not.1 hc)
    have hi : i < t.length := by omega
    obtain ⟨hwh, hk0, hrb, hl2⟩ := form_ok symB hf
    obtain ⟨w1, w2, w3⟩ := hwh.at hi
    obtain ⟨a, rfl⟩ : ∃ a, ob = some a := Option.isSome_iff_exists.1 (hsl.get (i := i) (by simpa using hi)).1
    refine s_skip ?_
    refine sSeq_normal ?_
    refine s_seq ?_
    refine s_ops ?_
    refine o_mov rfl rfl ?_
    refine o_mov rfl rfl ?_
    refine o_mov rfl rfl ?_
    refine o_call1 rfl (ha1 rfl) rfl (fun H1 hH1 => (ends_spec hE hwh (by omega) hk0 H1 (some a) cap (hsl.mono hH1 (fun _ _ h => (by cases h)))).mono ?_)
    rintro v M1 ⟨be, rfl, hbe⟩
    refine So.weakM (M' := [(be, .row ((endsL t).map I64) true)]) ?_ (by rw [List.append_nil]; exact List.singleton_sublist.2 hbe)
    refine o_mov rfl rfl ?_
    refine o_iad rfl rfl hi rfl rfl ?_
    refine o_ld1 (v := I64 (endAt t i : Nat)) rfl (.head _) (by show ((endsL t).map I64)[0 + i * 1]? = _; simp [endsL, hi]) rfl ?_
    refine o_slSub rfl rfl rfl (by unfold endAt; omega) (by omega) rfl ?_
    refine o_call1 rfl (ha1 rfl) rfl (fun H1 hH1 => ?_)
    have hsub := hsl.sub (l := i) (m := endAt t i) (cap := cap) (by unfold endAt; omega) (by rw [List.length_map]; exact w3) (by rw [List.length_map]; exact hcap)
    have he : ((t.map Node.cells).drop i).take (endAt t i - i) = (subT t i).map Node.cells := by
      unfold subT endAt; rw [Nat.add_sub_cancel_left, ← List.map_drop, ← List.map_take]
    rw [he] at hsub
    have hln : (subT t i).length = endAt t i - i := by unfold subT endAt at *; rw [List.length_take, List.length_drop]; omega
    have := clone_spec hE (subT t i) (by omega) H1 (some (subAdr a i cap 6)) (cap - i) (hsub.mono hH1 (fun _ _ h => (by cases h)))
    rw [hln] at this
    refine this.mono ?_
    rintro v M2 hnew
    refine o_mov rfl rfl ?_
    refine o_mov rfl rfl ?_
    refine o_nil ?_
    refine sSeq_normal ?_
    refine s_ret ?_
    refine sRet_ret [_, _] ⟨rfl, rfl, trivial⟩ ?_
    rw [hres]
    first | exact ⟨_, rfl, .inl ⟨rfl, rfl⟩⟩ | exact ⟨_, rfl, hnew.mono (fun x hx => List.mem_append_left _ hx)⟩

end Go.Proofs.YtfonnebpnobomaaDoor.W
