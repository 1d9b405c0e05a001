/- What is known of closed calls. -/
import Derived.Test.YtgfbdcbbgpkmnaaGreatDoorNqAa
import Derived.Test.YtgfbdcbbgpkmnaaGreatDoorNqAb
import Derived.Test.YtgfbdcbbgpkmnaaGreatDoorNqAc
import Derived.Test.YtgfbdcbbgpkmnaaGreatDoorNqAd
import Derived.Test.YtgfbdcbbgpkmnaaGreatDoorNqAe
set_option autoImplicit false
set_option linter.unusedVariables false
set_option maxRecDepth 1000000
namespace Go.Vi
open Go Go.Proofs
noncomputable def altT (a b : List AV → HT → Option (AV × HT)) (xs : List AV) (h : HT) : Option (AV × HT) := match a xs h with
  | some r => some r
  | none => b xs h
noncomputable def altK (a b : List AV → Hp → Option (AV × Hp)) (xs : List AV) (h : Hp) : Option (AV × Hp) := match a xs h with
  | some r => some r
  | none => b xs h
noncomputable def r5_1 : AV := (vres Tryz.prog T5_1_0.H Tryz.f5 T5_1_0.e).getD .undef
theorem x5_1 : XS Tryz.prog (fun _ => none) 5 A5_1 H5_1 fun r H => r = r5_1 ∧ H = T5_1_0.H :=
  XS.bodyP (fn := Tryz.f5) (code := bodyT Tryz.f5) Tryz.func5 (by kernel_rfl)
    (pieceN_ok (c := cfY) F1_sim R1_ok (by kernel_rfl) pT5_1_0 (ret_ok (by kernel_rfl) (by kernel_rfl)))
noncomputable def r6_1 : AV := (vres Tryz.prog T6_1_0.H Tryz.f6 T6_1_0.e).getD .undef
theorem x6_1 : XS Tryz.prog (fun _ => none) 6 A6_1 H6_1 fun r H => r = r6_1 ∧ H = T6_1_0.H :=
  XS.bodyP (fn := Tryz.f6) (code := bodyT Tryz.f6) Tryz.func6 (by kernel_rfl)
    (pieceN_ok (c := cfY) F1_sim R1_ok (by kernel_rfl) pT6_1_0 (ret_ok (by kernel_rfl) (by kernel_rfl)))
noncomputable def r35_1 : AV := (vres Tryz.prog T35_1_1.H Tryz.f35 T35_1_1.e).getD .undef
theorem x35_1 : XS Tryz.prog (fun _ => none) 35 A35_1 H35_1 fun r H => r = r35_1 ∧ H = T35_1_1.H :=
  XS.bodyP (fn := Tryz.f35) (code := bodyT Tryz.f35) Tryz.func35 (by kernel_rfl)
    (pieceN_ok (c := cfY) F1_sim R1_ok (by kernel_rfl) pT35_1_0 (pieceN_ok (c := cfY) F1_sim R1_ok (by kernel_rfl) pT35_1_1 (ret_ok (by kernel_rfl) (by kernel_rfl))))
noncomputable def r35_2 : AV := (vres Tryz.prog T35_2_1.H Tryz.f35 T35_2_1.e).getD .undef
theorem x35_2 : XS Tryz.prog (fun _ => none) 35 A35_2 H35_2 fun r H => r = r35_2 ∧ H = T35_2_1.H :=
  XS.bodyP (fn := Tryz.f35) (code := bodyT Tryz.f35) Tryz.func35 (by kernel_rfl)
    (pieceN_ok (c := cfY) F1_sim R1_ok (by kernel_rfl) pT35_2_0 (pieceN_ok (c := cfY) F1_sim R1_ok (by kernel_rfl) pT35_2_1 (ret_ok (by kernel_rfl) (by kernel_rfl))))
noncomputable def r35_3 : AV := (vres Tryz.prog T35_3_1.H Tryz.f35 T35_3_1.e).getD .undef
theorem x35_3 : XS Tryz.prog (fun _ => none) 35 A35_3 H35_3 fun r H => r = r35_3 ∧ H = T35_3_1.H :=
  XS.bodyP (fn := Tryz.f35) (code := bodyT Tryz.f35) Tryz.func35 (by kernel_rfl)
    (pieceN_ok (c := cfY) F1_sim R1_ok (by kernel_rfl) pT35_3_0 (pieceN_ok (c := cfY) F1_sim R1_ok (by kernel_rfl) pT35_3_1 (ret_ok (by kernel_rfl) (by kernel_rfl))))
theorem sel_ok {P : Program} {G : Glob} {f : Nat} {p : List AV → Bool} {a b : List AV → Hp → Option (AV × Hp)} (ha : ∀ xs H r H2, a xs H = some (r, H2) → XS P G f xs H fun r1 H1 => r1 = r ∧ H1 = H2) (hb : ∀ xs H r H2, b xs H = some (r, H2) → XS P G f xs H fun r1 H1 => r1 = r ∧ H1 = H2) : ∀ xs H r H2, selK p a b xs H = some (r, H2) → XS P G f xs H fun r1 H1 => r1 = r ∧ H1 = H2 := fun xs H r H2 hv => by
  unfold selK at hv
  split at hv
  · exact ha _ _ _ _ hv
  · exact hb _ _ _ _ hv
theorem KS.alt {a b : List AV → HT → Option (AV × HT)} {a2 b2 : List AV → Hp → Option (AV × Hp)} (h1 : KS a a2) (hb : KS b b2) (hn : ∀ xs h, h.ok → a xs h = none → a2 xs h.den = none) : KS (altT a b) (altK a2 b2) := fun xs h r h2 hh hv => by
  unfold altT at hv
  unfold altK
  split at hv
  · rename_i r1 h1e
    cases hv
    obtain ⟨x1, x2⟩ := h1 _ _ _ _ hh h1e
    exact ⟨x1, by rw [x2]⟩
  · rename_i h1e
    rw [hn _ _ hh h1e]
    exact hb _ _ _ _ hh hv
theorem memo_no {xs0 : List AV} {H0 : Hp} {r0 : AV} {H1 : Hp} : ∀ xs h, h.ok → memoT xs0 H0 r0 H1 xs h = none → memoK xs0 H0 r0 H1 xs h.den = none := fun xs h _ hv => by
  unfold memoT at hv
  unfold memoK
  split at hv
  · cases hv
  · rfl
theorem alt_ok {P : Program} {G : Glob} {f : Nat} {a b : List AV → Hp → Option (AV × Hp)} (ha : ∀ xs H r H2, a xs H = some (r, H2) → XS P G f xs H fun r1 H1 => r1 = r ∧ H1 = H2) (hb : ∀ xs H r H2, b xs H = some (r, H2) → XS P G f xs H fun r1 H1 => r1 = r ∧ H1 = H2) : ∀ xs H r H2, altK a b xs H = some (r, H2) → XS P G f xs H fun r1 H1 => r1 = r ∧ H1 = H2 := fun xs H r H2 hv => by
  unfold altK at hv
  split at hv
  · rename_i h1; cases hv; exact ha _ _ _ _ h1
  · exact hb _ _ _ _ hv
noncomputable def O1m5 : KnownT := addT O1 5 (memoT A5_1 H5_1 r5_1 T5_1_0.H)
noncomputable def K1m5 : Known := addK K1 5 (memoK A5_1 H5_1 r5_1 T5_1_0.H)
theorem O1m5_sim : KSim O1m5 K1m5 := addT_sim O1_sim memo_sim
theorem K1m5_ok : KnownOk Tryz.prog (fun _ => none) K1m5 := addK_ok K1_ok (memo_ok x5_1)
def sel6 : List AV → Bool := fun xs => match xs with | [.ptr _ _ _, .int _ (.ofNat 1)] => true | _ => false
noncomputable def O1m6 : KnownT := addT O1m5 6 (selT sel6 (memoT A6_1 H6_1 r6_1 T6_1_0.H) (runF cfY O1 30 6))
noncomputable def K1m6 : Known := addK K1m5 6 (selK sel6 (memoK A6_1 H6_1 r6_1 T6_1_0.H) (erunO Tryz.prog (fun _ => mdA) (fun _ => none) K1 4000 30 6))
theorem O1m6_sim : KSim O1m6 K1m6 := addT_sim O1m5_sim (sel_ks memo_sim (run_ks (c := cfY) O1_sim 30 6))
theorem K1m6_ok : KnownOk Tryz.prog (fun _ => none) K1m6 := addK_ok K1m5_ok (sel_ok (memo_ok x6_1) (fun xs H r H2 hv => erunO_ok Tryz.prog _ _ K1 K1_ok 4000 30 6 xs H r H2 hv))
noncomputable def O1m35 : KnownT := addT O1m6 35 (altT (memoT A35_1 H35_1 r35_1 T35_1_1.H) (altT (memoT A35_2 H35_2 r35_2 T35_2_1.H) (memoT A35_3 H35_3 r35_3 T35_3_1.H)))
noncomputable def K1m35 : Known := addK K1m6 35 (altK (memoK A35_1 H35_1 r35_1 T35_1_1.H) (altK (memoK A35_2 H35_2 r35_2 T35_2_1.H) (memoK A35_3 H35_3 r35_3 T35_3_1.H)))
theorem O1m35_sim : KSim O1m35 K1m35 := addT_sim O1m6_sim (KS.alt memo_sim (KS.alt memo_sim memo_sim memo_no) memo_no)
theorem K1m35_ok : KnownOk Tryz.prog (fun _ => none) K1m35 := addK_ok K1m6_ok (alt_ok (memo_ok x35_1) (alt_ok (memo_ok x35_2) (memo_ok x35_3)))
noncomputable def O2 : KnownT := O1m35
noncomputable def K2 : Known := K1m35
theorem O2_sim : KSim O2 K2 := O1m35_sim
theorem K2_ok : KnownOk Tryz.prog (fun _ => none) K2 := K1m35_ok
noncomputable def F2 : FRec := runF cfY O2 30
theorem F2_sim : FSim F2 (erunO Tryz.prog (fun _ => mdA) (fun _ => none) K2 4000 30) := runF_eq cfY O2 K2 O2_sim 30
theorem R2_ok : RecOk Tryz.prog (fun _ => none) (erunO Tryz.prog (fun _ => mdA) (fun _ => none) K2 4000 30) := erunO_ok Tryz.prog _ _ K2 K2_ok 4000 30
end Go.Vi
