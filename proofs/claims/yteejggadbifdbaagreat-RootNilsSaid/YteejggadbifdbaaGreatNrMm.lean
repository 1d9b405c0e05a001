/- What is known of closed calls. -/
import Derived.Test.YteejggadbifdbaaGreatNrAa
import Derived.Test.YteejggadbifdbaaGreatNrAb
import Derived.Test.YteejggadbifdbaaGreatNrAc
import Derived.Test.YteejggadbifdbaaGreatNrAd
import Derived.Test.YteejggadbifdbaaGreatNrAe
import Derived.Test.YteejggadbifdbaaGreatNrAf
import Derived.Test.YteejggadbifdbaaGreatNrAg
import Derived.Test.YteejggadbifdbaaGreatNrAh
import Derived.Test.YteejggadbifdbaaGreatNrAi
import Derived.Test.YteejggadbifdbaaGreatNrAj
import Derived.Test.YteejggadbifdbaaGreatNrAk
set_option autoImplicit false
set_option linter.unusedVariables false
set_option maxRecDepth 1000000
namespace Go.Vi
open Go Go.Proofs
noncomputable def altT (a b : List AV → HT → Option (AV × HT)) (xs : List AV) (h : HT) : Option (AV × HT) := match a xs h with
  | some r => some r
  | none => b xs h
noncomputable def altK (a b : List AV → Hp → Option (AV × Hp)) (xs : List AV) (h : Hp) : Option (AV × Hp) := match a xs h with
  | some r => some r
  | none => b xs h
theorem KS.alt {a b : List AV → HT → Option (AV × HT)} {a2 b2 : List AV → Hp → Option (AV × Hp)} (h1 : KS a a2) (hb : KS b b2) (hn : ∀ xs h, h.ok → a xs h = none → a2 xs h.den = none) : KS (altT a b) (altK a2 b2) := fun xs h r h2 hh hv => by
  unfold altT at hv
  unfold altK
  split at hv
  · rename_i r1 h1e
    cases hv
    obtain ⟨x1, x2⟩ := h1 _ _ _ _ hh h1e
    exact ⟨x1, by rw [x2]⟩
  · rename_i h1e
    rw [hn _ _ hh h1e]
    exact hb _ _ _ _ hh hv
theorem memo_no {xs0 : List AV} {H0 : Hp} {r0 : AV} {H1 : Hp} : ∀ xs h, h.ok → memoT xs0 H0 r0 H1 xs h = none → memoK xs0 H0 r0 H1 xs h.den = none := fun xs h _ hv => by
  unfold memoT at hv
  unfold memoK
  split at hv
  · cases hv
  · rfl
theorem alt_ok {P : Program} {G : Glob} {f : Nat} {a b : List AV → Hp → Option (AV × Hp)} (ha : ∀ xs H r H2, a xs H = some (r, H2) → XS P G f xs H fun r1 H1 => r1 = r ∧ H1 = H2) (hb : ∀ xs H r H2, b xs H = some (r, H2) → XS P G f xs H fun r1 H1 => r1 = r ∧ H1 = H2) : ∀ xs H r H2, altK a b xs H = some (r, H2) → XS P G f xs H fun r1 H1 => r1 = r ∧ H1 = H2 := fun xs H r H2 hv => by
  unfold altK at hv
  split at hv
  · rename_i h1; cases hv; exact ha _ _ _ _ h1
  · exact hb _ _ _ _ hv
noncomputable def r5_1 : AV := (vres Tryz.prog T5_1_0.H Tryz.f5 T5_1_0.e).getD .undef
theorem x5_1 : XS Tryz.prog (fun _ => none) 5 A5_1 H5_1 fun r H => r = r5_1 ∧ H = T5_1_0.H :=
  XS.bodyP (fn := Tryz.f5) (code := bodyT Tryz.f5) Tryz.func5 (by kernel_rfl)
    (pieceN_ok (c := cfY) F1_sim R1_ok (nb := H5_1.length) (by kernel_rfl) pT5_1_0 (ret_ok (by kernel_rfl) (by kernel_rfl)))
noncomputable def r20_1 : AV := (vres Tryz.prog T20_1_4.H Tryz.f20 T20_1_4.e).getD .undef
theorem x20_1 : XS Tryz.prog (fun _ => none) 20 A20_1 H20_1 fun r H => r = r20_1 ∧ H = T20_1_4.H :=
  XS.bodyP (fn := Tryz.f20) (code := bodyT Tryz.f20) Tryz.func20 (by kernel_rfl)
    (pieceN_ok (c := cfY) F1_sim R1_ok (nb := H20_1.length) (by kernel_rfl) pT20_1_0 (loopPart_ok (c := cfY) F1_sim R1_ok (nb := H20_1.length) (by kernel_rfl) hw20 pT20_1_1 (round_ok (c := cfY) F1_sim R1_ok (nb := H20_1.length) (by kernel_rfl) pT20_1_2 (leave_ok (c := cfY) F1_sim R1_ok (nb := H20_1.length) (y := y20) (by kernel_rfl) pT20_1_3 (pieceN_ok (c := cfY) F1_sim R1_ok (nb := H20_1.length) (by kernel_rfl) pT20_1_4 (ret_ok (by kernel_rfl) (by kernel_rfl)))))))
noncomputable def r20_2 : AV := (vres Tryz.prog T20_2_9.H Tryz.f20 T20_2_9.e).getD .undef
theorem x20_2 : XS Tryz.prog (fun _ => none) 20 A20_2 H20_2 fun r H => r = r20_2 ∧ H = T20_2_9.H :=
  XS.bodyP (fn := Tryz.f20) (code := bodyT Tryz.f20) Tryz.func20 (by kernel_rfl)
    (pieceN_ok (c := cfY) F1_sim R1_ok (nb := H20_2.length) (by kernel_rfl) pT20_2_0 (loopPart_ok (c := cfY) F1_sim R1_ok (nb := H20_2.length) (by kernel_rfl) hw20 pT20_2_1 (round_ok (c := cfY) F1_sim R1_ok (nb := H20_2.length) (by kernel_rfl) pT20_2_2 (round_ok (c := cfY) F1_sim R1_ok (nb := H20_2.length) (by kernel_rfl) pT20_2_3 (round_ok (c := cfY) F1_sim R1_ok (nb := H20_2.length) (by kernel_rfl) pT20_2_4 (round_ok (c := cfY) F1_sim R1_ok (nb := H20_2.length) (by kernel_rfl) pT20_2_5 (round_ok (c := cfY) F1_sim R1_ok (nb := H20_2.length) (by kernel_rfl) pT20_2_6 (round_ok (c := cfY) F1_sim R1_ok (nb := H20_2.length) (by kernel_rfl) pT20_2_7 (leave_ok (c := cfY) F1_sim R1_ok (nb := H20_2.length) (y := y20) (by kernel_rfl) pT20_2_8 (pieceN_ok (c := cfY) F1_sim R1_ok (nb := H20_2.length) (by kernel_rfl) pT20_2_9 (ret_ok (by kernel_rfl) (by kernel_rfl))))))))))))
noncomputable def r20_3 : AV := (vres Tryz.prog T20_3_9.H Tryz.f20 T20_3_9.e).getD .undef
theorem x20_3 : XS Tryz.prog (fun _ => none) 20 A20_3 H20_3 fun r H => r = r20_3 ∧ H = T20_3_9.H :=
  XS.bodyP (fn := Tryz.f20) (code := bodyT Tryz.f20) Tryz.func20 (by kernel_rfl)
    (pieceN_ok (c := cfY) F1_sim R1_ok (nb := H20_3.length) (by kernel_rfl) pT20_3_0 (loopPart_ok (c := cfY) F1_sim R1_ok (nb := H20_3.length) (by kernel_rfl) hw20 pT20_3_1 (round_ok (c := cfY) F1_sim R1_ok (nb := H20_3.length) (by kernel_rfl) pT20_3_2 (round_ok (c := cfY) F1_sim R1_ok (nb := H20_3.length) (by kernel_rfl) pT20_3_3 (round_ok (c := cfY) F1_sim R1_ok (nb := H20_3.length) (by kernel_rfl) pT20_3_4 (round_ok (c := cfY) F1_sim R1_ok (nb := H20_3.length) (by kernel_rfl) pT20_3_5 (round_ok (c := cfY) F1_sim R1_ok (nb := H20_3.length) (by kernel_rfl) pT20_3_6 (round_ok (c := cfY) F1_sim R1_ok (nb := H20_3.length) (by kernel_rfl) pT20_3_7 (leave_ok (c := cfY) F1_sim R1_ok (nb := H20_3.length) (y := y20) (by kernel_rfl) pT20_3_8 (pieceN_ok (c := cfY) F1_sim R1_ok (nb := H20_3.length) (by kernel_rfl) pT20_3_9 (ret_ok (by kernel_rfl) (by kernel_rfl))))))))))))
noncomputable def r20_4 : AV := (vres Tryz.prog T20_4_6.H Tryz.f20 T20_4_6.e).getD .undef
theorem x20_4 : XS Tryz.prog (fun _ => none) 20 A20_4 H20_4 fun r H => r = r20_4 ∧ H = T20_4_6.H :=
  XS.bodyP (fn := Tryz.f20) (code := bodyT Tryz.f20) Tryz.func20 (by kernel_rfl)
    (pieceN_ok (c := cfY) F1_sim R1_ok (nb := H20_4.length) (by kernel_rfl) pT20_4_0 (loopPart_ok (c := cfY) F1_sim R1_ok (nb := H20_4.length) (by kernel_rfl) hw20 pT20_4_1 (round_ok (c := cfY) F1_sim R1_ok (nb := H20_4.length) (by kernel_rfl) pT20_4_2 (round_ok (c := cfY) F1_sim R1_ok (nb := H20_4.length) (by kernel_rfl) pT20_4_3 (round_ok (c := cfY) F1_sim R1_ok (nb := H20_4.length) (by kernel_rfl) pT20_4_4 (leave_ok (c := cfY) F1_sim R1_ok (nb := H20_4.length) (y := y20) (by kernel_rfl) pT20_4_5 (pieceN_ok (c := cfY) F1_sim R1_ok (nb := H20_4.length) (by kernel_rfl) pT20_4_6 (ret_ok (by kernel_rfl) (by kernel_rfl)))))))))
noncomputable def r11_1 : AV := (vres Tryz.prog T11_1_0.H Tryz.f11 T11_1_0.e).getD .undef
theorem x11_1 : XS Tryz.prog (fun _ => none) 11 A11_1 H11_1 fun r H => r = r11_1 ∧ H = T11_1_0.H :=
  XS.bodyP (fn := Tryz.f11) (code := bodyT Tryz.f11) Tryz.func11 (by kernel_rfl)
    (pieceN_ok (c := cfY) F1_sim R1_ok (nb := H11_1.length) (by kernel_rfl) pT11_1_0 (ret_ok (by kernel_rfl) (by kernel_rfl)))
noncomputable def r11_2 : AV := (vres Tryz.prog T11_2_0.H Tryz.f11 T11_2_0.e).getD .undef
theorem x11_2 : XS Tryz.prog (fun _ => none) 11 A11_2 H11_2 fun r H => r = r11_2 ∧ H = T11_2_0.H :=
  XS.bodyP (fn := Tryz.f11) (code := bodyT Tryz.f11) Tryz.func11 (by kernel_rfl)
    (pieceN_ok (c := cfY) F1_sim R1_ok (nb := H11_2.length) (by kernel_rfl) pT11_2_0 (ret_ok (by kernel_rfl) (by kernel_rfl)))
noncomputable def r11_3 : AV := (vres Tryz.prog T11_3_0.H Tryz.f11 T11_3_0.e).getD .undef
theorem x11_3 : XS Tryz.prog (fun _ => none) 11 A11_3 H11_3 fun r H => r = r11_3 ∧ H = T11_3_0.H :=
  XS.bodyP (fn := Tryz.f11) (code := bodyT Tryz.f11) Tryz.func11 (by kernel_rfl)
    (pieceN_ok (c := cfY) F1_sim R1_ok (nb := H11_3.length) (by kernel_rfl) pT11_3_0 (ret_ok (by kernel_rfl) (by kernel_rfl)))
noncomputable def r11_4 : AV := (vres Tryz.prog T11_4_0.H Tryz.f11 T11_4_0.e).getD .undef
theorem x11_4 : XS Tryz.prog (fun _ => none) 11 A11_4 H11_4 fun r H => r = r11_4 ∧ H = T11_4_0.H :=
  XS.bodyP (fn := Tryz.f11) (code := bodyT Tryz.f11) Tryz.func11 (by kernel_rfl)
    (pieceN_ok (c := cfY) F1_sim R1_ok (nb := H11_4.length) (by kernel_rfl) pT11_4_0 (ret_ok (by kernel_rfl) (by kernel_rfl)))
noncomputable def r11_5 : AV := (vres Tryz.prog T11_5_0.H Tryz.f11 T11_5_0.e).getD .undef
theorem x11_5 : XS Tryz.prog (fun _ => none) 11 A11_5 H11_5 fun r H => r = r11_5 ∧ H = T11_5_0.H :=
  XS.bodyP (fn := Tryz.f11) (code := bodyT Tryz.f11) Tryz.func11 (by kernel_rfl)
    (pieceN_ok (c := cfY) F1_sim R1_ok (nb := H11_5.length) (by kernel_rfl) pT11_5_0 (ret_ok (by kernel_rfl) (by kernel_rfl)))
noncomputable def r11_6 : AV := (vres Tryz.prog T11_6_0.H Tryz.f11 T11_6_0.e).getD .undef
theorem x11_6 : XS Tryz.prog (fun _ => none) 11 A11_6 H11_6 fun r H => r = r11_6 ∧ H = T11_6_0.H :=
  XS.bodyP (fn := Tryz.f11) (code := bodyT Tryz.f11) Tryz.func11 (by kernel_rfl)
    (pieceN_ok (c := cfY) F1_sim R1_ok (nb := H11_6.length) (by kernel_rfl) pT11_6_0 (ret_ok (by kernel_rfl) (by kernel_rfl)))
noncomputable def r11_7 : AV := (vres Tryz.prog T11_7_0.H Tryz.f11 T11_7_0.e).getD .undef
theorem x11_7 : XS Tryz.prog (fun _ => none) 11 A11_7 H11_7 fun r H => r = r11_7 ∧ H = T11_7_0.H :=
  XS.bodyP (fn := Tryz.f11) (code := bodyT Tryz.f11) Tryz.func11 (by kernel_rfl)
    (pieceN_ok (c := cfY) F1_sim R1_ok (nb := H11_7.length) (by kernel_rfl) pT11_7_0 (ret_ok (by kernel_rfl) (by kernel_rfl)))
noncomputable def r11_8 : AV := (vres Tryz.prog T11_8_0.H Tryz.f11 T11_8_0.e).getD .undef
theorem x11_8 : XS Tryz.prog (fun _ => none) 11 A11_8 H11_8 fun r H => r = r11_8 ∧ H = T11_8_0.H :=
  XS.bodyP (fn := Tryz.f11) (code := bodyT Tryz.f11) Tryz.func11 (by kernel_rfl)
    (pieceN_ok (c := cfY) F1_sim R1_ok (nb := H11_8.length) (by kernel_rfl) pT11_8_0 (ret_ok (by kernel_rfl) (by kernel_rfl)))
noncomputable def O1m5 : KnownT := addT O1 5 (memoT A5_1 H5_1 r5_1 T5_1_0.H)
noncomputable def K1m5 : Known := addK K1 5 (memoK A5_1 H5_1 r5_1 T5_1_0.H)
theorem O1m5_sim : KSim O1m5 K1m5 := addT_sim O1_sim memo_sim
theorem K1m5_ok : KnownOk Tryz.prog (fun _ => none) K1m5 := addK_ok K1_ok (memo_ok x5_1)
noncomputable def O1m20 : KnownT := addT O1m5 20 (altT (memoT A20_1 H20_1 r20_1 T20_1_4.H) (altT (memoT A20_2 H20_2 r20_2 T20_2_9.H) (altT (memoT A20_3 H20_3 r20_3 T20_3_9.H) (memoT A20_4 H20_4 r20_4 T20_4_6.H))))
noncomputable def K1m20 : Known := addK K1m5 20 (altK (memoK A20_1 H20_1 r20_1 T20_1_4.H) (altK (memoK A20_2 H20_2 r20_2 T20_2_9.H) (altK (memoK A20_3 H20_3 r20_3 T20_3_9.H) (memoK A20_4 H20_4 r20_4 T20_4_6.H))))
theorem O1m20_sim : KSim O1m20 K1m20 := addT_sim O1m5_sim (KS.alt memo_sim (KS.alt memo_sim (KS.alt memo_sim memo_sim memo_no) memo_no) memo_no)
theorem K1m20_ok : KnownOk Tryz.prog (fun _ => none) K1m20 := addK_ok K1m5_ok (alt_ok (memo_ok x20_1) (alt_ok (memo_ok x20_2) (alt_ok (memo_ok x20_3) (memo_ok x20_4))))
noncomputable def O1m11 : KnownT := addT O1m20 11 (altT (memoT A11_1 H11_1 r11_1 T11_1_0.H) (altT (memoT A11_2 H11_2 r11_2 T11_2_0.H) (altT (memoT A11_3 H11_3 r11_3 T11_3_0.H) (altT (memoT A11_4 H11_4 r11_4 T11_4_0.H) (altT (memoT A11_5 H11_5 r11_5 T11_5_0.H) (altT (memoT A11_6 H11_6 r11_6 T11_6_0.H) (altT (memoT A11_7 H11_7 r11_7 T11_7_0.H) (memoT A11_8 H11_8 r11_8 T11_8_0.H))))))))
noncomputable def K1m11 : Known := addK K1m20 11 (altK (memoK A11_1 H11_1 r11_1 T11_1_0.H) (altK (memoK A11_2 H11_2 r11_2 T11_2_0.H) (altK (memoK A11_3 H11_3 r11_3 T11_3_0.H) (altK (memoK A11_4 H11_4 r11_4 T11_4_0.H) (altK (memoK A11_5 H11_5 r11_5 T11_5_0.H) (altK (memoK A11_6 H11_6 r11_6 T11_6_0.H) (altK (memoK A11_7 H11_7 r11_7 T11_7_0.H) (memoK A11_8 H11_8 r11_8 T11_8_0.H))))))))
theorem O1m11_sim : KSim O1m11 K1m11 := addT_sim O1m20_sim (KS.alt memo_sim (KS.alt memo_sim (KS.alt memo_sim (KS.alt memo_sim (KS.alt memo_sim (KS.alt memo_sim (KS.alt memo_sim memo_sim memo_no) memo_no) memo_no) memo_no) memo_no) memo_no) memo_no)
theorem K1m11_ok : KnownOk Tryz.prog (fun _ => none) K1m11 := addK_ok K1m20_ok (alt_ok (memo_ok x11_1) (alt_ok (memo_ok x11_2) (alt_ok (memo_ok x11_3) (alt_ok (memo_ok x11_4) (alt_ok (memo_ok x11_5) (alt_ok (memo_ok x11_6) (alt_ok (memo_ok x11_7) (memo_ok x11_8))))))))
noncomputable def O2 : KnownT := O1m11
noncomputable def K2 : Known := K1m11
theorem O2_sim : KSim O2 K2 := O1m11_sim
theorem K2_ok : KnownOk Tryz.prog (fun _ => none) K2 := K1m11_ok
noncomputable def F2 : FRec := runF cfY O2 30
theorem F2_sim : FSim F2 (erunO Tryz.prog (fun _ => mdA) (fun _ => none) K2 4000 30) := runF_eq cfY O2 K2 O2_sim 30
theorem R2_ok : RecOk Tryz.prog (fun _ => none) (erunO Tryz.prog (fun _ => mdA) (fun _ => none) K2 4000 30) := erunO_ok Tryz.prog _ _ K2 K2_ok 4000 30
end Go.Vi
