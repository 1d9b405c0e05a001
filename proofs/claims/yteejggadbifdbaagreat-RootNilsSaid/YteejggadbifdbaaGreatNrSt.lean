/- States between the parts of closed calls. -/
import Derived.Test.YteejggadbifdbaaGreatNrR
import Derived.Test.YteejggadbifdbaaGreatViGa
import Derived.Test.YteejggadbifdbaaGreatViGd
import Derived.KernelRfl
set_option autoImplicit false
set_option linter.unusedVariables false
set_option maxRecDepth 1000000
namespace Go.Vi
open Go Go.Proofs
noncomputable def F1 : FRec := runF cfY O1 30
theorem F1_sim : FSim F1 (erunO Tryz.prog (fun _ => mdA) (fun _ => none) K1 4000 30) := runF_eq cfY O1 K1 O1_sim 30
theorem R1_ok : RecOk Tryz.prog (fun _ => none) (erunO Tryz.prog (fun _ => mdA) (fun _ => none) K1 4000 30) := erunO_ok Tryz.prog _ _ K1 K1_ok 4000 30
noncomputable def bodyT (f : Func) : Code := f.body.getD .skip
theorem ret_ok {P : Program} {G : Glob} {nb : Nat} {fn : Func} {r : AV} {x : Code} {S : Stt} (hx : x = .ret) (h : vres P S.H fn S.e = some r) : Pc P G nb x (fnQ P fn fun v H => v = r ∧ H = S.H) S.e S.H := by
  subst hx
  refine Pc.ret ?_
  simp [fnQ, h]
def fstC : Code → Code
  | .seq a _ => a
  | c => c
def sndC : Code → Code
  | .seq _ b => b
  | c => c
def lpB : Code → Code
  | .block _ (.loop b) => b
  | c => c
theorem loopPart_ok {c : Cf} {F : FRec} {R' : Rec} (hF : FSim F R') (hR : RecOk c.P c.G R') {nb id : Nat} {w a b y : Code} {S S' : Stt} {σ : List Nat} {Q : Qv} (hl : S.e.length = S'.e.length) (hw : w = .seq (.seq a (.block id (.loop b))) y)
    (h : pieceN c F nb 1 (.seq a (.block id (.loop b))) S σ S' = true) (hL : PcL c.P c.G nb b (blockQ id (thenQ (fun env H => Pc c.P c.G nb y Q env H) Q)) S'.e S'.H) : Pc c.P c.G nb w Q S.e S.H := by
  subst hw
  exact Pc.seq (pieceN_ok hF hR hl h (Pc.block (Pc.loop hL)))
noncomputable def w20 : Code := restK 3 (bodyT Tryz.f20)
noncomputable def a20 : Code := fstC (fstC w20)
noncomputable def b20 : Code := lpB (sndC (fstC w20))
noncomputable def y20 : Code := sndC w20
noncomputable def w4 : Code := restK 1 (bodyT Tryz.f4)
noncomputable def a4 : Code := fstC (fstC w4)
noncomputable def b4 : Code := lpB (sndC (fstC w4))
noncomputable def y4 : Code := sndC w4
theorem hw20 : w20 = .seq (.seq a20 (.block 0 (.loop b20))) y20 := by kernel_rfl
theorem hw4 : w4 = .seq (.seq a4 (.block 0 (.loop b4))) y4 := by kernel_rfl

end Go.Vi
