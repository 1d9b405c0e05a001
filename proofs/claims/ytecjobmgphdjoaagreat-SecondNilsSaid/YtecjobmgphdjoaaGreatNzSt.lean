/- Awake of the sets: states between its parts. -/
import Derived.Test.YtecjobmgphdjoaaGreatNzE
import Derived.Test.YtecjobmgphdjoaaGreatViGb
set_option autoImplicit false
set_option linter.unusedVariables false
set_option maxRecDepth 1000000
namespace Go.Vi
open Go Go.Proofs
noncomputable def O2 : KnownT := addT O1 31 entryT
noncomputable def K2 : Known := addK K1 31 entryK
theorem O2_sim : KSim O2 K2 := addT_sim O1_sim entry_ks
theorem K2_ok : KnownOk Tryz.prog (fun _ => none) K2 := addK_ok K1_ok fun xs H r H' hv => entry_ok _ xs H r H' hv
noncomputable def F2 : FRec := runF cfY O2 30
theorem F2_sim : FSim F2 (erunO Tryz.prog (fun _ => mdA) (fun _ => none) K2 4000 30) := runF_eq cfY O2 K2 O2_sim 30
theorem R2_ok : RecOk Tryz.prog (fun _ => none) (erunO Tryz.prog (fun _ => mdA) (fun _ => none) K2 4000 30) := erunO_ok Tryz.prog _ _ K2 K2_ok 4000 30
noncomputable def cA : Code := Tryz.f4.body.getD .skip
def S0 : Stt := ⟨rp 62 .undef, []⟩
def S1 : Stt := ⟨([.bool false, .undef, .int .i64 0, .ptr 9 0 0, .int .i64 1] ++ rp 57 (.undef)), [
  .arr 124 3126 [([.bool true] ++ rp 3121 (.nils) ++ [.bool false, .int .i64 0, .int .i64 1, .int .i64 0])],
  .arr 188 4 [[.ptr 0 0 0, .nils, .int .i64 0, .bool false]],
  .arr 197 5 [[.ptr 0 0 0, .ptr 1 0 0, .int .i64 8, .nils, .int .i64 0]],
  .map [],
  .map [],
  .arr 201 2 [[.mapr 3, .mapr 4]],
  .map [(1, .ptr 8 0 0)],
  .arr 119 8 [[.ptr 0 0 0, .ptr 1 0 0, .ptr 2 0 0, .ptr 5 0 0, .mapr 6, .int .i64 2, .int .i64 0, .bool false]],
  .arr 128 4 [[.nils, .str ⟨#[]⟩, .bool false, .bool false]],
  .arr 130 1 [[.ptr 7 0 0]]]⟩
def s1 : List Nat := [50, 51, 53, 54, 55, 56, 57, 58, 72, 73]
def S2 : Stt := ⟨([.bool false, .undef, .int .i64 0, .ptr 9 0 0, .int .i64 1, .undef, .int .i64 1] ++ rp 55 (.undef)), [
  .arr 124 3126 [([.bool true] ++ rp 3120 (.nils) ++ [.row false 32 0 4, .bool false, .int .i64 0, .int .i64 5, .int .i64 0])],
  .arr 188 4 [[.ptr 0 0 0, .row false 35 0 4, .int .i64 0, .bool true]],
  .arr 197 5 [[.ptr 0 0 0, .ptr 1 0 0, .int .i64 8, .row false 22 0 3, .int .i64 3]],
  .map [(0, .ptr 11 0 0), (1, .ptr 14 0 0), (2, .ptr 20 0 0)],
  .map [],
  .arr 201 2 [[.mapr 3, .mapr 4]],
  .map [(1, .ptr 8 0 0)],
  .arr 119 8 [[.ptr 0 0 0, .ptr 1 0 0, .ptr 2 0 0, .ptr 5 0 0, .mapr 6, .int .i64 2, .int .i64 0, .bool false]],
  .arr 128 4 [[.row false 36 0 4, .str ⟨#[]⟩, .bool true, .bool false]],
  .arr 130 1 [[.ptr 7 0 0]],
  .map [(1, .int .i64 2)],
  .arr 316 2 [[.mapr 10, .nils]],
  .arr 366 4 [[.int .i64 0, .row false 26 0 128, .int .i64 2, .bool true]],
  .map [(1, .int .i64 2)],
  .arr 316 2 [[.mapr 13, .nils]],
  .arr 366 4 [[.int .i64 1, .row false 37 0 128, .int .i64 4, .bool true]],
  .arr 5 1 (bL [0, 0, 0, 22, 0, 0, 0, 1, 1, 0, 0, 0, 1, 0, 0, 0, 0, 1, 1, 0, 1, 1]),
  .arr 5 1 (bL [0]),
  .arr 5 1 (bL [1]),
  .map [(1, .int .i64 2)],
  .arr 316 2 [[.mapr 19, .nils]],
  .arr 366 4 [[.int .i64 2, .row false 30 0 128, .int .i64 3, .bool true]],
  .arr 362 1 [[.ptr 21 0 0], [.ptr 12 0 0], [.ptr 15 0 0]],
  .arr 5 1 (bL [0, 0, 0, 22, 0, 0, 0, 2, 1, 0, 0, 0, 1, 0, 0, 0, 0, 2, 1, 0, 1, 1]),
  .arr 5 1 (bL [0]),
  .arr 5 1 (bL [1]),
  .arr 5 1 (bL ([0, 1, 1] ++ rp 125 (0))),
  .arr 5 1 (bL [0, 0, 0, 24, 0, 0, 0, 3, 1, 0, 0, 0, 1, 0, 0, 0, 2, 0, 2, 0, 0, 2, 73, 1]),
  .arr 5 1 (bL [0, 0]),
  .arr 5 1 (bL [73, 1]),
  .arr 5 1 (bL ([73, 1] ++ rp 126 (0))),
  .arr 5 1 (bL [0, 0, 0, 22, 0, 0, 0, 4, 1, 0, 0, 0, 1, 0, 0, 0, 1, 0, 1, 0, 1, 2]),
  .arr 289 2 [[.int .i64 120, .row false 16 0 22], [.int .i64 121, .row false 23 0 22], [.int .i64 122, .row false 27 0 24], [.int .i64 123, .row false 31 0 22]],
  .arr 5 1 (bL [0]),
  .arr 5 1 (bL [2]),
  .arr 192 10 [[.int .i64 1, .int .i64 1, .int .i64 0, .int .i64 1, .row false 17 0 1, .row false 18 0 1, .int .i64 0, .int .i64 0, .str ⟨#[]⟩, .nils], [.int .i64 1, .int .i64 1, .int .i64 0, .int .i64 2, .row false 24 0 1, .row false 25 0 1, .int .i64 0, .int .i64 0, .str ⟨#[]⟩, .nils], [.int .i64 1, .int .i64 1, .int .i64 2, .int .i64 0, .row false 28 0 2, .row false 29 0 2, .int .i64 0, .int .i64 0, .str ⟨#[]⟩, .nils], [.int .i64 1, .int .i64 1, .int .i64 1, .int .i64 0, .row false 33 0 1, .row false 34 0 1, .int .i64 0, .int .i64 0, .str ⟨#[]⟩, .nils]],
  .arr 3 1 [[.int .i64 1], [.int .i64 2], [.int .i64 3], [.int .i64 4]],
  .arr 5 1 (bL ([2] ++ rp 127 (0)))]⟩
def s2 : List Nat := [0, 1, 2, 3, 4, 5, 6, 7, 8, 9, 27, 28, 32, 39, 40, 44, 94, 100, 102, 121, 122, 126, 129, 174, 180, 182, 190, 239, 245, 247, 255, 301, 303, 307, 309, 311, 313, 317]
def S3 : Stt := ⟨([.bool false, .undef, .int .i64 0, .undef, .int .i64 1, .undef, .undef, .ptr 37 0 0] ++ rp 54 (.undef)), [
  .arr 124 3126 [([.bool true] ++ rp 3120 (.nils) ++ [.row false 39 0 5, .bool false, .int .i64 0, .int .i64 6, .int .i64 0])],
  .arr 188 4 [[.ptr 0 0 0, .row false 42 0 5, .int .i64 0, .bool true]],
  .arr 197 5 [[.ptr 0 0 0, .ptr 1 0 0, .int .i64 8, .row false 22 0 3, .int .i64 3]],
  .map [(0, .ptr 11 0 0), (1, .ptr 14 0 0), (2, .ptr 20 0 0)],
  .map [],
  .arr 201 2 [[.mapr 3, .mapr 4]],
  .map [(1, .ptr 8 0 0)],
  .arr 119 8 [[.ptr 0 0 0, .ptr 1 0 0, .ptr 2 0 0, .ptr 5 0 0, .mapr 6, .int .i64 2, .int .i64 0, .bool false]],
  .arr 128 4 [[.row false 43 0 5, .str ⟨#[]⟩, .bool true, .bool false]],
  .arr 130 1 [[.ptr 7 0 0]],
  .map [(1, .int .i64 2)],
  .arr 316 2 [[.mapr 10, .nils]],
  .arr 366 4 [[.int .i64 0, .row false 26 0 128, .int .i64 2, .bool true]],
  .map [(1, .int .i64 2)],
  .arr 316 2 [[.mapr 13, .nils]],
  .arr 366 4 [[.int .i64 1, .row false 33 0 128, .int .i64 4, .bool true]],
  .arr 5 1 (bL [0, 0, 0, 22, 0, 0, 0, 1, 1, 0, 0, 0, 1, 0, 0, 0, 0, 1, 1, 0, 1, 1]),
  .arr 5 1 (bL [0]),
  .arr 5 1 (bL [1]),
  .map [(1, .int .i64 2)],
  .arr 316 2 [[.mapr 19, .nils]],
  .arr 366 4 [[.int .i64 2, .row false 44 0 128, .int .i64 5, .bool true]],
  .arr 362 1 [[.ptr 15 0 0], [.ptr 12 0 0], [.ptr 21 0 0]],
  .arr 5 1 (bL [0, 0, 0, 22, 0, 0, 0, 2, 1, 0, 0, 0, 1, 0, 0, 0, 0, 2, 1, 0, 1, 1]),
  .arr 5 1 (bL [0]),
  .arr 5 1 (bL [1]),
  .arr 5 1 (bL ([0, 1, 1] ++ rp 125 (0))),
  .arr 5 1 (bL [0, 0, 0, 24, 0, 0, 0, 3, 1, 0, 0, 0, 1, 0, 0, 0, 2, 0, 2, 0, 0, 2, 73, 1]),
  .arr 5 1 (bL [0, 0]),
  .arr 5 1 (bL [73, 1]),
  .arr 5 1 (bL [0, 0, 0, 22, 0, 0, 0, 4, 1, 0, 0, 0, 1, 0, 0, 0, 1, 0, 1, 0, 1, 2]),
  .arr 5 1 (bL [0]),
  .arr 5 1 (bL [2]),
  .arr 5 1 (bL ([2] ++ rp 127 (0))),
  .arr 69 3 [[.str ⟨#[67, 85, 83, 84, 78, 79]⟩, .int .i64 0, .int .i64 4], [.str ⟨#[83, 84, 65, 84, 69]⟩, .int .i64 4, .int .i64 2]],
  .arr 72 8 [[.str ⟨#[67, 85, 83, 84]⟩, .int .i64 (-1), .int .i64 4, .int .i64 10, .row true 34 0 2, .int .i64 0, .bool true, .bool false]],
  .arr 74 4 [[.str ⟨#[66, 89, 83, 84, 65, 84, 69]⟩, .int .i64 0, .int .i64 1, .str ⟨#[32]⟩]],
  .arr 37 6 [[.str ⟨#[83, 72, 79, 80]⟩, .int .i64 4, .row true 35 0 1, .row true 36 0 1, .ptr 9 0 0, .int .i64 1]],
  .arr 5 1 (bL ([0, 0, 0, 36, 0, 0, 0, 5, 1, 0, 0, 0, 1, 0, 0, 0, 2, 2, 8] ++ rp 8 (0) ++ [8, 1, 4, 78, 89, 0, 200, 0, 200])),
  .arr 289 2 [[.int .i64 120, .row false 16 0 22], [.int .i64 121, .row false 23 0 22], [.int .i64 122, .row false 27 0 24], [.int .i64 123, .row false 30 0 22], [.int .i64 124, .row false 38 0 36]],
  .arr 5 1 (bL (rp 8 (0))),
  .arr 5 1 (bL [1, 4, 78, 89, 0, 200, 0, 200]),
  .arr 192 10 [[.int .i64 1, .int .i64 1, .int .i64 0, .int .i64 1, .row false 17 0 1, .row false 18 0 1, .int .i64 0, .int .i64 0, .str ⟨#[]⟩, .nils], [.int .i64 1, .int .i64 1, .int .i64 0, .int .i64 2, .row false 24 0 1, .row false 25 0 1, .int .i64 0, .int .i64 0, .str ⟨#[]⟩, .nils], [.int .i64 1, .int .i64 1, .int .i64 2, .int .i64 0, .row false 28 0 2, .row false 29 0 2, .int .i64 0, .int .i64 0, .str ⟨#[]⟩, .nils], [.int .i64 1, .int .i64 1, .int .i64 1, .int .i64 0, .row false 31 0 1, .row false 32 0 1, .int .i64 0, .int .i64 0, .str ⟨#[]⟩, .nils], [.int .i64 1, .int .i64 1, .int .i64 2, .int .i64 2, .row false 40 0 8, .row false 41 0 8, .int .i64 0, .int .i64 0, .str ⟨#[]⟩, .nils]],
  .arr 3 1 [[.int .i64 1], [.int .i64 2], [.int .i64 3], [.int .i64 4], [.int .i64 5]],
  .arr 5 1 (bL ([73, 1, 1, 4, 78, 89, 0, 200, 0, 200] ++ rp 118 (0)))]⟩
def s3 : List Nat := [0, 1, 2, 3, 4, 5, 6, 7, 8, 9, 10, 11, 12, 13, 14, 15, 16, 17, 18, 19, 20, 21, 22, 23, 24, 25, 26, 27, 28, 29, 31, 33, 34, 37, 39, 40, 41, 53, 181, 183, 187, 189, 191, 193, 197]
end Go.Vi
