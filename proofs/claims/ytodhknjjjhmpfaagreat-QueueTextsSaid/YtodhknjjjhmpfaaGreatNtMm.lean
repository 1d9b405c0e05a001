/- What is known of closed calls. -/
import Derived.Test.YtodhknjjjhmpfaaGreatNtAa
import Derived.Test.YtodhknjjjhmpfaaGreatNtAb
import Derived.Test.YtodhknjjjhmpfaaGreatNtAc
import Derived.Test.YtodhknjjjhmpfaaGreatNtAd
import Derived.Test.YtodhknjjjhmpfaaGreatNtAe
set_option autoImplicit false
set_option linter.unusedVariables false
set_option maxRecDepth 1000000
namespace Go.Vi
open Go Go.Proofs
noncomputable def altT (a b : List AV → HT → Option (AV × HT)) (xs : List AV) (h : HT) : Option (AV × HT) := match a xs h with
  | some r => some r
  | none => b xs h
noncomputable def altK (a b : List AV → Hp → Option (AV × Hp)) (xs : List AV) (h : Hp) : Option (AV × Hp) := match a xs h with
  | some r => some r
  | none => b xs h
noncomputable def r7_1 : AV := (vres Tryz.prog T7_1_0.H Tryz.f7 T7_1_0.e).getD .undef
theorem x7_1 : XS Tryz.prog (fun _ => none) 7 A7_1 H7_1 fun r H => r = r7_1 ∧ H = T7_1_0.H :=
  XS.bodyP (fn := Tryz.f7) (code := bodyT Tryz.f7) Tryz.func7 (by kernel_rfl)
    (pieceN_ok (c := cfY) F1_sim R1_ok (by kernel_rfl) pT7_1_0 (ret_ok (by kernel_rfl) (by kernel_rfl)))
noncomputable def r8_1 : AV := (vres Tryz.prog T8_1_0.H Tryz.f8 T8_1_0.e).getD .undef
theorem x8_1 : XS Tryz.prog (fun _ => none) 8 A8_1 H8_1 fun r H => r = r8_1 ∧ H = T8_1_0.H :=
  XS.bodyP (fn := Tryz.f8) (code := bodyT Tryz.f8) Tryz.func8 (by kernel_rfl)
    (pieceN_ok (c := cfY) F1_sim R1_ok (by kernel_rfl) pT8_1_0 (ret_ok (by kernel_rfl) (by kernel_rfl)))
noncomputable def r28_1 : AV := (vres Tryz.prog T28_1_1.H Tryz.f28 T28_1_1.e).getD .undef
theorem x28_1 : XS Tryz.prog (fun _ => none) 28 A28_1 H28_1 fun r H => r = r28_1 ∧ H = T28_1_1.H :=
  XS.bodyP (fn := Tryz.f28) (code := bodyT Tryz.f28) Tryz.func28 (by kernel_rfl)
    (pieceN_ok (c := cfY) F1_sim R1_ok (by kernel_rfl) pT28_1_0 (pieceN_ok (c := cfY) F1_sim R1_ok (by kernel_rfl) pT28_1_1 (ret_ok (by kernel_rfl) (by kernel_rfl))))
noncomputable def r28_2 : AV := (vres Tryz.prog T28_2_1.H Tryz.f28 T28_2_1.e).getD .undef
theorem x28_2 : XS Tryz.prog (fun _ => none) 28 A28_2 H28_2 fun r H => r = r28_2 ∧ H = T28_2_1.H :=
  XS.bodyP (fn := Tryz.f28) (code := bodyT Tryz.f28) Tryz.func28 (by kernel_rfl)
    (pieceN_ok (c := cfY) F1_sim R1_ok (by kernel_rfl) pT28_2_0 (pieceN_ok (c := cfY) F1_sim R1_ok (by kernel_rfl) pT28_2_1 (ret_ok (by kernel_rfl) (by kernel_rfl))))
noncomputable def r28_3 : AV := (vres Tryz.prog T28_3_1.H Tryz.f28 T28_3_1.e).getD .undef
theorem x28_3 : XS Tryz.prog (fun _ => none) 28 A28_3 H28_3 fun r H => r = r28_3 ∧ H = T28_3_1.H :=
  XS.bodyP (fn := Tryz.f28) (code := bodyT Tryz.f28) Tryz.func28 (by kernel_rfl)
    (pieceN_ok (c := cfY) F1_sim R1_ok (by kernel_rfl) pT28_3_0 (pieceN_ok (c := cfY) F1_sim R1_ok (by kernel_rfl) pT28_3_1 (ret_ok (by kernel_rfl) (by kernel_rfl))))
theorem sel_ok {P : Program} {G : Glob} {f : Nat} {p : List AV → Bool} {a b : List AV → Hp → Option (AV × Hp)} (ha : ∀ xs H r H2, a xs H = some (r, H2) → XS P G f xs H fun r1 H1 => r1 = r ∧ H1 = H2) (hb : ∀ xs H r H2, b xs H = some (r, H2) → XS P G f xs H fun r1 H1 => r1 = r ∧ H1 = H2) : ∀ xs H r H2, selK p a b xs H = some (r, H2) → XS P G f xs H fun r1 H1 => r1 = r ∧ H1 = H2 := fun xs H r H2 hv => by
  unfold selK at hv
  split at hv
  · exact ha _ _ _ _ hv
  · exact hb _ _ _ _ hv
theorem KS.alt {a b : List AV → HT → Option (AV × HT)} {a2 b2 : List AV → Hp → Option (AV × Hp)} (h1 : KS a a2) (hb : KS b b2) (hn : ∀ xs h, h.ok → a xs h = none → a2 xs h.den = none) : KS (altT a b) (altK a2 b2) := fun xs h r h2 hh hv => by
  unfold altT at hv
  unfold altK
  split at hv
  · rename_i r1 h1e
    cases hv
    obtain ⟨x1, x2⟩ := h1 _ _ _ _ hh h1e
    exact ⟨x1, by rw [x2]⟩
  · rename_i h1e
    rw [hn _ _ hh h1e]
    exact hb _ _ _ _ hh hv
theorem memo_no {xs0 : List AV} {H0 : Hp} {r0 : AV} {H1 : Hp} : ∀ xs h, h.ok → memoT xs0 H0 r0 H1 xs h = none → memoK xs0 H0 r0 H1 xs h.den = none := fun xs h _ hv => by
  unfold memoT at hv
  unfold memoK
  split at hv
  · cases hv
  · rfl
theorem alt_ok {P : Program} {G : Glob} {f : Nat} {a b : List AV → Hp → Option (AV × Hp)} (ha : ∀ xs H r H2, a xs H = some (r, H2) → XS P G f xs H fun r1 H1 => r1 = r ∧ H1 = H2) (hb : ∀ xs H r H2, b xs H = some (r, H2) → XS P G f xs H fun r1 H1 => r1 = r ∧ H1 = H2) : ∀ xs H r H2, altK a b xs H = some (r, H2) → XS P G f xs H fun r1 H1 => r1 = r ∧ H1 = H2 := fun xs H r H2 hv => by
  unfold altK at hv
  split at hv
  · rename_i h1; cases hv; exact ha _ _ _ _ h1
  · exact hb _ _ _ _ hv
noncomputable def O1m7 : KnownT := addT O1 7 (memoT A7_1 H7_1 r7_1 T7_1_0.H)
noncomputable def K1m7 : Known := addK K1 7 (memoK A7_1 H7_1 r7_1 T7_1_0.H)
theorem O1m7_sim : KSim O1m7 K1m7 := addT_sim O1_sim memo_sim
theorem K1m7_ok : KnownOk Tryz.prog (fun _ => none) K1m7 := addK_ok K1_ok (memo_ok x7_1)
def sel8 : List AV → Bool := fun xs => match xs with | [.ptr _ _ _, .int _ (.ofNat 1)] => true | _ => false
noncomputable def O1m8 : KnownT := addT O1m7 8 (selT sel8 (memoT A8_1 H8_1 r8_1 T8_1_0.H) (runF cfY O1 30 8))
noncomputable def K1m8 : Known := addK K1m7 8 (selK sel8 (memoK A8_1 H8_1 r8_1 T8_1_0.H) (erunO Tryz.prog (fun _ => mdA) (fun _ => none) K1 4000 30 8))
theorem O1m8_sim : KSim O1m8 K1m8 := addT_sim O1m7_sim (sel_ks memo_sim (run_ks (c := cfY) O1_sim 30 8))
theorem K1m8_ok : KnownOk Tryz.prog (fun _ => none) K1m8 := addK_ok K1m7_ok (sel_ok (memo_ok x8_1) (fun xs H r H2 hv => erunO_ok Tryz.prog _ _ K1 K1_ok 4000 30 8 xs H r H2 hv))
noncomputable def O1m28 : KnownT := addT O1m8 28 (altT (memoT A28_1 H28_1 r28_1 T28_1_1.H) (altT (memoT A28_2 H28_2 r28_2 T28_2_1.H) (memoT A28_3 H28_3 r28_3 T28_3_1.H)))
noncomputable def K1m28 : Known := addK K1m8 28 (altK (memoK A28_1 H28_1 r28_1 T28_1_1.H) (altK (memoK A28_2 H28_2 r28_2 T28_2_1.H) (memoK A28_3 H28_3 r28_3 T28_3_1.H)))
theorem O1m28_sim : KSim O1m28 K1m28 := addT_sim O1m8_sim (KS.alt memo_sim (KS.alt memo_sim memo_sim memo_no) memo_no)
theorem K1m28_ok : KnownOk Tryz.prog (fun _ => none) K1m28 := addK_ok K1m8_ok (alt_ok (memo_ok x28_1) (alt_ok (memo_ok x28_2) (memo_ok x28_3)))
noncomputable def O2 : KnownT := O1m28
noncomputable def K2 : Known := K1m28
theorem O2_sim : KSim O2 K2 := O1m28_sim
theorem K2_ok : KnownOk Tryz.prog (fun _ => none) K2 := K1m28_ok
noncomputable def F2 : FRec := runF cfY O2 30
theorem F2_sim : FSim F2 (erunO Tryz.prog (fun _ => mdA) (fun _ => none) K2 4000 30) := runF_eq cfY O2 K2 O2_sim 30
theorem R2_ok : RecOk Tryz.prog (fun _ => none) (erunO Tryz.prog (fun _ => mdA) (fun _ => none) K2 4000 30) := erunO_ok Tryz.prog _ _ K2 K2_ok 4000 30
end Go.Vi
