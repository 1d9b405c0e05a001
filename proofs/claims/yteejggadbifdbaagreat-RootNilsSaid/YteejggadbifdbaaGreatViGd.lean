/- Vi, part Gd: functions that are known if something holds, in runs that write down what must hold; what is known by a walk. -/
import Derived.Test.YteejggadbifdbaaGreatViGa
import Derived.Test.YteejggadbifdbaaGreatViT
set_option autoImplicit false
set_option linter.unusedVariables false
set_option linter.unusedSimpArgs false
set_option maxRecDepth 100000
namespace Go.Vi
open Go
/-- What a walk has shown of a call on lent values, as what is known of the function. -/
theorem Fn.xs {P : Program} {G : Glob} {g : Nat} {xs ys : List AV} {r : AV} {H : Hp} (hl : mapL (lend H) xs = some ys) (hf : Fn P G g ys r) : XS P G g xs H fun r1 H1 => r1 = r ∧ H1 = H :=
  fun c Vs s hg hlen hr => callX_sound (m := .iso) (call_iso (k := fun r1 H1 => r1 = r ∧ H1 = H) hl hf ⟨rfl, rfl⟩) s hg hlen hr
abbrev KnownH := Nat → Option (List AV → HT → RG)
def HSim (OG : KnownH) (K : Known) : Prop := ∀ f k, OG f = some k → ∃ k', K f = some k' ∧ ∀ xs h r h' L, h.ok → k xs h = some ((r, h'), L) → oksL L → h'.ok ∧ k' xs h.den = some (r, h'.den)
noncomputable def runH (c : Cf) (O : KnownT) (OG : KnownH) (W : Nat → Option Ora) (d : Nat) : GRec :=
  Nat.rec (motive := fun _ => GRec) (fun _ _ _ => none) (fun n ih f args h => match OG f with
    | some k => k args h
    | none => match W f with
      | none => plO (runF c O (Nat.succ n) f args h)
      | some w => match c.P.funcs[f]? with
        | none => none
        | some fn => bodyO c w ih args h fn) d
theorem runH_eq (c : Cf) (O : KnownT) (OG : KnownH) (O' : Known) (hO : KSim O O') (hG : HSim OG O') (W : Nat → Option Ora) (hW : ∀ f, OG f = none → (W f).isSome = true → O' f = none) : ∀ (d : Nat), FSim (frG (runH c O OG W d)) (erunO c.P (fun _ => mdA) c.G O' c.n d)
  | 0 => fun g xs h r h' k hv => by obtain ⟨L, h1, _⟩ := frG_ex hv; cases h1
  | d + 1 => fun f args h r h' k hv => by
    obtain ⟨L, h1, hL⟩ := frG_ex hv
    have h1 : (match OG f with
      | some k => k args h
      | none => match W f with
        | none => plO (runF c O (Nat.succ d) f args h)
        | some w => match c.P.funcs[f]? with
          | none => none
          | some fn => bodyO c w (runH c O OG W d) args h fn) = some ((r, h'), L) := h1
    split at h1
    · rename_i kk hk
      obtain ⟨k', g1, g2⟩ := hG _ _ hk
      simp only [erunO, g1]
      exact g2 _ _ _ _ _ k h1 hL
    · rename_i hog
      split at h1
      · exact runF_eq c O O' hO (d + 1) f args h r h' k (plO_ok h1)
      · rename_i w hw
        simp only [erunO]
        rw [hW f hog (by rw [hw]; rfl)]
        simp only
        split at h1
        · cases h1
        · rename_i fn hf
          rw [hf]
          simp only
          unfold bodyO at h1
          split at h1
          · cases h1
          · rename_i code hb
            rw [hb]
            simp only
            split at h1
            · cases h1
            · rename_i hl
              obtain ⟨e1, e2⟩ := fenv_eq (Nat.le_of_ble_eq_true hl)
              split at h1
              case h_2 => cases h1
              rename_i x L1 hc
              split at h1
              case h_2 => cases h1
              rename_i r1 hfin
              cases h1
              obtain ⟨ex, env', h2⟩ := x
              obtain ⟨a, b, cc⟩ := fcode_eq (runH_eq c O OG O' hO hG W hW d) code e1 k (cdO_ok code hc hL)
              rw [e2] at cc
              rw [cc]
              exact ffin_eq a b hfin
theorem runH_xs {c : Cf} {O : KnownT} {OG : KnownH} {O' : Known} (hO : KSim O O') (hG : HSim OG O') (hK : KnownOk c.P c.G O') {W : Nat → Option Ora} (hW : ∀ f, OG f = none → (W f).isSome = true → O' f = none) {d f : Nat} {args : List AV} {h h' : HT} {r : AV} {L : Obls} (k : h.ok)
    (hv : runH c O OG W d f args h = some ((r, h'), L)) (hL : oksL L) : XS c.P c.G f args h.den fun r1 H1 => r1 = r ∧ H1 = h'.den :=
  erunO_ok c.P _ _ O' hK c.n d f args h.den r h'.den ((runH_eq c O OG O' hO hG W hW d) f args h r h' k (frG_of hv hL)).2
end Go.Vi
