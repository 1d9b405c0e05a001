/- SpaceRefuses, computed for every text. -/
import Derived.Test.YteahbejkncnplaaGreatNyS
set_option autoImplicit false
set_option linter.unusedVariables false
set_option maxRecDepth 1000000
namespace Go.Vi
open Go Go.Proofs
def sl : Code → Code
  | .seq a _ => a
  | c => c
def sr : Code → Code
  | .seq _ b => b
  | c => c
def ct : Code → Code
  | .cond _ a _ => a
  | c => c
def ce : Code → Code
  | .cond _ _ b => b
  | c => c
noncomputable def nrm (x : Option (Exit × Br AV × HT)) : Option (Br AV × HT) := match x with
  | some (.normal, e, h) => some (e, h)
  | _ => none
noncomputable def stepC (c : Cf) (F : FRec) (N : Nat) (x : Code) (p : Br AV × HT) : Option (Br AV × HT) := nrm (cdF x c F N p.1 p.2)
noncomputable def finR (P : Program) (fn : Func) (x : Option (Exit × Br AV × HT)) : Option AV := match x with
  | some (.ret, env, h) => fres P h fn env
  | _ => none
section
variable {c : Cf} {F : FRec} {R' : Rec} {N : Nat}
theorem cdF_ok (hF : FSim F R') (hR : RecOk c.P c.G R') (hN : c.n = c.n) {x : Code} {e e' : Br AV} {h h' : HT} {ex : Exit} (he : e.ex N) (hh : h.ok) (hv : cdF x c F N e h = some (ex, e', h')) :
    e'.ex N ∧ h'.ok ∧ ∀ (nb : Nat) (Q : Qv), Q ex (e'.toL N) h'.den → vcode (XS c.P c.G) c.P mdA c.G nb x Q (e.toL N) h.den := by
  obtain ⟨a, b, d⟩ := fcode_eq hF x he hh (cdF_eq x hv)
  exact ⟨a, b, fun nb Q hQ => ecode_sound hR x Q _ _ _ _ _ d hQ⟩
theorem stepC_ok (hF : FSim F R') (hR : RecOk c.P c.G R') {x : Code} {p p' : Br AV × HT} (he : p.1.ex N) (hh : p.2.ok) (hv : stepC c F N x p = some p') :
    p'.1.ex N ∧ p'.2.ok ∧ ∀ (nb : Nat) (Q : Qv), Q .normal (p'.1.toL N) p'.2.den → vcode (XS c.P c.G) c.P mdA c.G nb x Q (p.1.toL N) p.2.den := by
  unfold stepC at hv
  cases hc : cdF x c F N p.1 p.2 with
  | none => rw [hc] at hv; cases hv
  | some q =>
    obtain ⟨ex, e', h'⟩ := q
    rw [hc] at hv
    cases ex <;> first | (cases hv; exact cdF_ok hF hR rfl he hh hc) | cases hv
theorem vc_seqT {X : Sem1} {P : Program} {md : Oper → Md} {G : Glob} {nb : Nat} {x : Code} {Q : Qv} {env : List AV} {H : Hp} (hx : x = .seq (sl x) (sr x)) (h : vcode X P md G nb (sl x) (thenQ (fun env H => vcode X P md G nb (sr x) Q env H) Q) env H) : vcode X P md G nb x Q env H := by
  rw [hx]
  exact .inl h
theorem finR_ok (hF : FSim F R') (hR : RecOk c.P c.G R') {fn : Func} {x : Code} {e : Br AV} {h : HT} {v : AV} (he : e.ex N) (hh : h.ok) (hv : finR c.P fn (cdF x c F N e h) = some v) (nb : Nat) (Q : Qv) (K : AV → Hp → Prop)
    (hQ : ∀ env H, fnQ c.P fn K .ret env H → Q .ret env H) (hK : ∀ H, K v H) : vcode (XS c.P c.G) c.P mdA c.G nb x Q (e.toL N) h.den := by
  cases hc : cdF x c F N e h with
  | none => rw [hc] at hv; cases hv
  | some q =>
    obtain ⟨ex, e', h'⟩ := q
    rw [hc] at hv
    cases ex <;> first | (cases hv; done) | skip
    obtain ⟨a, b, d⟩ := cdF_ok hF hR rfl he hh hc
    refine d nb Q (hQ _ _ ?_)
    have hv : fres c.P h' fn e' = some v := hv
    have h1 : ffin c.P fn (some (.ret, e', h')) = some (v, h') := by simp only [ffin, hv, Option.map_some]
    obtain ⟨_, h2⟩ := ffin_eq a b h1
    simp only [efin] at h2
    obtain ⟨z, h3, h4⟩ := map_some h2
    simp only [fnQ, h3]
    cases h4
    exact hK _
end
noncomputable def b0 : Code := Tryz.f3.body.getD .skip
noncomputable def F2 : FRec := runF cfY O2 30
noncomputable def st (x : Code) (p : Br AV × HT) : Option (Br AV × HT) := stepC cfY F2 Tryz.f3.ntmps x p
def aS (s : ByteArray) : List AV := [.agg [.undef, .undef, .undef, .str s]]
noncomputable def p0 (s : ByteArray) : Br AV × HT := (fenv Tryz.f3.ntmps (aS s), HT.none)
noncomputable def b1 : Code := sr b0
noncomputable def b2 : Code := sr b1
noncomputable def b3 : Code := sr b2
noncomputable def b4 : Code := sr b3
noncomputable def b5 : Code := sr b4
noncomputable def pre (s : ByteArray) : Option (Br AV × HT) := (st (sl b0) (p0 s)).bind fun p => (st (sl b1) p).bind fun p => (st (sl b2) p).bind fun p => (st (sl b3) p).bind fun p => st (sl (sl b4)) p
end Go.Vi
