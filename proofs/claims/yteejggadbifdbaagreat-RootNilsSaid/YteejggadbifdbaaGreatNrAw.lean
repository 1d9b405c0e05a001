/- The closed function, computed in parts. -/
import Derived.Test.YteejggadbifdbaaGreatNrMm
set_option autoImplicit false
set_option linter.unusedVariables false
set_option maxRecDepth 1000000
namespace Go.Vi
open Go Go.Proofs
def Z : Stt := ⟨rp 74 .undef, []⟩
def Z_0 : Stt := ⟨([.bool false] ++ (rp 73 (.undef))), [
  ]⟩
def sZ_0 : List Nat := []
def Z_1 : Stt := ⟨([.bool false, .int .i64 1] ++ (rp 72 (.undef))), [
  ]⟩
def sZ_1 : List Nat := []
def Z_2 : Stt := ⟨([.bool false, .int .i64 2] ++ (rp 72 (.undef))), [
  ]⟩
def sZ_2 : List Nat := []
def Z_3 : Stt := ⟨([.bool false, .int .i64 3] ++ (rp 72 (.undef))), [
  ]⟩
def sZ_3 : List Nat := []
def Z_4 : Stt := ⟨([.bool false, .int .i64 4] ++ (rp 72 (.undef))), [
  ]⟩
def sZ_4 : List Nat := []
def Z_5 : Stt := ⟨([.bool false, .int .i64 5] ++ (rp 72 (.undef))), [
  ]⟩
def sZ_5 : List Nat := []
def Z_6 : Stt := ⟨([.bool false] ++ (rp 73 (.undef))), [
  ]⟩
def sZ_6 : List Nat := []
theorem pZ_0 : pieceN cfY F2 0 1 (bodyT Tryz.f4) Z sZ_0 Z_0 = true := by kernel_rfl
theorem pZ_1 : pieceN cfY F2 0 1 (.seq a4 (.block 0 (.loop b4))) Z_0 sZ_1 Z_1 = true := by kernel_rfl
theorem pZ_2 : pieceX cfY F2 0 isN b4 Z_1 sZ_2 Z_2 = true := by kernel_rfl
theorem pZ_3 : pieceX cfY F2 0 isN b4 Z_2 sZ_3 Z_3 = true := by kernel_rfl
theorem pZ_4 : pieceX cfY F2 0 isN b4 Z_3 sZ_4 Z_4 = true := by kernel_rfl
theorem pZ_5 : pieceX cfY F2 0 isN b4 Z_4 sZ_5 Z_5 = true := by kernel_rfl
theorem pZ_6 : pieceX cfY F2 0 (isX 0) b4 Z_5 sZ_6 Z_6 = true := by kernel_rfl
theorem qL : lastB cfY F2 Tryz.f4 y4 Z_6 = some (.bool true) := by kernel_rfl
theorem awake_xs : XS Tryz.prog (fun _ => none) 4 [] [] fun r H => r = .bool true :=
  XS.bodyP (fn := Tryz.f4) (code := bodyT Tryz.f4) Tryz.func4 (by kernel_rfl)
    (pieceN_ok (c := cfY) F2_sim R2_ok (nb := 0) (by kernel_rfl) pZ_0 (loopPart_ok (c := cfY) F2_sim R2_ok (nb := 0) (by kernel_rfl) hw4 pZ_1 (round_ok (c := cfY) F2_sim R2_ok (nb := 0) (by kernel_rfl) pZ_2 (round_ok (c := cfY) F2_sim R2_ok (nb := 0) (by kernel_rfl) pZ_3 (round_ok (c := cfY) F2_sim R2_ok (nb := 0) (by kernel_rfl) pZ_4 (round_ok (c := cfY) F2_sim R2_ok (nb := 0) (by kernel_rfl) pZ_5 (leave_ok (c := cfY) F2_sim R2_ok (nb := 0) (y := y4) (by kernel_rfl) pZ_6 (last_ok (c := cfY) F2_sim R2_ok qL))))))))
end Go.Vi
