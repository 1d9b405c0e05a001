/- First, known. -/
import Derived.Test.YteahbejkncnplaaGreatNySa
set_option autoImplicit false
set_option linter.unusedVariables false
set_option maxRecDepth 1000000
namespace Go.Vi
open Go Go.Proofs Go.RowKit
def firstK (xs : List AV) (H : Hp) : Option (AV × Hp) := match xs with
  | [] => some (.bool true, H)
  | _ => none
def firstT (xs : List AV) (h : HT) : Option (AV × HT) := match xs with
  | [] => some (.bool true, h)
  | _ => none
theorem first_ks : KS firstT firstK := fun xs h r h' k hv => by
  unfold firstT at hv
  split at hv
  case h_2 => cases hv
  cases hv
  exact ⟨k, rfl⟩
/-- What a call without arguments gives, over whatever lies. -/
theorem closed_xs {P : Program} {f : Nat} {r : AV} {Hn : Hp} (hv : r.isVal = true) (hx : XS P (fun _ => none) f [] [] fun r1 H1 => r1 = r ∧ H1 = Hn) (hI : ∀ (c c' : Cx) (V : Value), Rel c r V → Rel c' r V) (G : Glob) (H : Hp) :
    XS P G f [] H fun r1 H1 => r1 = r ∧ H1 = H := by
  intro c Vs s hg hl hr
  match Vs, hl with
  | [], _ =>
    have s0 : Sim { w := c.w, I := fun _ => False, B := fun _ => False, ρ := fun _ => none } [] := ⟨fun _ h => h.elim, fun _ h => h.elim, fun l o h => by simp at h, fun l l' cl cl' h => by obtain ⟨o, h, _⟩ := h; simp at h, fun _ _ => rfl⟩
    refine (hx _ [] s0 (fun g cs h => by cases h) rfl (fun j x V h => by simp at h)).mono ?_
    rintro e w' ⟨r1, H1, c', V, rfl, rfl, t, hV, rfl, rfl⟩
    have hB : Below c.w.heap.size c.w c'.w := ⟨t.ext.os, t.ext.tape, t.ext.output, t.ext.size, fun b hb => t.ext.frame b hb fun ⟨l, cl, ⟨o, h, _⟩, _⟩ => by simp at h⟩
    exact ⟨_, _, { c with w := c'.w }, _, rfl, rfl, To.belowS s hB, hI _ _ _ hV, rfl, rfl⟩
theorem first_ok (G : Glob) (xs : List AV) (H : Hp) (r : AV) (H' : Hp) (h : firstK xs H = some (r, H')) : XS Tryz.prog G 8 xs H fun r1 H1 => r1 = r ∧ H1 = H' := by
  unfold firstK at h
  split at h
  case h_2 => cases h
  cases h
  obtain ⟨h', e⟩ := valF_ok first_run
  obtain ⟨_, e2⟩ := runF_eq cfY O1 K1 O1_sim 30 8 [] HT.none _ _ HT.none_ok e
  rw [HT.none_den] at e2
  exact closed_xs rfl (erunO_ok Tryz.prog _ _ K1 (K1_ok _) 4000 30 8 [] [] _ _ e2) (fun c c' V h => by cases h; exact .bool true) G H
/-! ### With First among what is known -/
noncomputable def O2 : KnownT := fun f => match f with
  | 8 => some firstT
  | f => O1 f
def K2 : Known := fun f => match f with
  | 8 => some firstK
  | f => K1 f
theorem O2_sim : KSim O2 K2 := by
  refine ⟨fun f h => ?_, fun f k h => ?_⟩
  · by_cases e : f = 8
    · subst e; cases h
    · have h1 : O2 f = O1 f := by unfold O2; split <;> first | (exact absurd rfl e) | rfl
      have h2 : K2 f = K1 f := by unfold K2; split <;> first | (exact absurd rfl e) | rfl
      rw [h2]
      rw [h1] at h
      exact O1_sim.1 f h
  · by_cases e : f = 8
    · subst e; cases h; exact ⟨_, rfl, first_ks⟩
    · have h1 : O2 f = O1 f := by unfold O2; split <;> first | (exact absurd rfl e) | rfl
      have h2 : K2 f = K1 f := by unfold K2; split <;> first | (exact absurd rfl e) | rfl
      rw [h2]
      rw [h1] at h
      exact O1_sim.2 f k h
theorem K2_ok (G : Glob) : KnownOk Tryz.prog G K2 := fun f k h xs H r H' hv => by
  by_cases e : f = 8
  · subst e; cases h; exact first_ok G xs H r H' hv
  · have h2 : K2 f = K1 f := by unfold K2; split <;> first | (exact absurd rfl e) | rfl
    rw [h2] at h
    exact K1_ok G f k h xs H r H' hv
end Go.Vi
