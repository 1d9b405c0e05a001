/- Closed calls, known. -/
import Derived.Test.YteahbejkncnplaaGreatNyAw
import Derived.Test.YteahbejkncnplaaGreatViGa
set_option autoImplicit false
set_option linter.unusedVariables false
set_option maxRecDepth 1000000
namespace Go.Vi
open Go Go.Proofs Go.RowKit
def trueK (xs : List AV) (H : Hp) : Option (AV × Hp) := match xs with
  | [] => some (.bool true, H)
  | _ => none
def trueT (xs : List AV) (h : HT) : Option (AV × HT) := match xs with
  | [] => some (.bool true, h)
  | _ => none
theorem true_ks : KS trueT trueK := fun xs h r h' k hv => by
  unfold trueT at hv
  split at hv
  case h_2 => cases hv
  cases hv
  exact ⟨k, rfl⟩
/-- What a call without arguments gives, over whatever lies. -/
theorem closed_xs {P : Program} {f : Nat} {r : AV} {Hn : Hp} (hv : r.isVal = true) (hx : XS P (fun _ => none) f [] [] fun r1 H1 => r1 = r ∧ H1 = Hn) (hI : ∀ (c c' : Cx) (V : Value), Rel c r V → Rel c' r V) (G : Glob) (H : Hp) :
    XS P G f [] H fun r1 H1 => r1 = r ∧ H1 = H := by
  intro c Vs s hg hl hr
  match Vs, hl with
  | [], _ =>
    have s0 : Sim { w := c.w, I := fun _ => False, B := fun _ => False, ρ := fun _ => none } [] := ⟨fun _ h => h.elim, fun _ h => h.elim, fun l o h => by simp at h, fun l l' cl cl' h => by obtain ⟨o, h, _⟩ := h; simp at h, fun _ _ => rfl⟩
    refine (hx _ [] s0 (fun g cs h => by cases h) rfl (fun j x V h => by simp at h)).mono ?_
    rintro e w' ⟨r1, H1, c', V, rfl, rfl, t, hV, rfl, rfl⟩
    have hB : Below c.w.heap.size c.w c'.w := ⟨t.ext.os, t.ext.tape, t.ext.output, t.ext.size, fun b hb => t.ext.frame b hb fun ⟨l, cl, ⟨o, h, _⟩, _⟩ => by simp at h⟩
    exact ⟨_, _, { c with w := c'.w }, _, rfl, rfl, To.belowS s hB, hI _ _ _ hV, rfl, rfl⟩
theorem true_ok {c : Cf} {O : KnownT} {K : Known} (hG : c.G = fun _ => none) (hO : KSim O K) (hK : KnownOk c.P c.G K) {d f : Nat} (hrun : valF (runF c O d f [] HT.none) = some (.bool true)) (G : Glob) (xs : List AV) (H : Hp) (r : AV) (H' : Hp) (h : trueK xs H = some (r, H')) :
    XS c.P G f xs H fun r1 H1 => r1 = r ∧ H1 = H' := by
  unfold trueK at h
  split at h
  case h_2 => cases h
  cases h
  obtain ⟨h', e⟩ := valF_ok hrun
  obtain ⟨_, e2⟩ := runF_eq c O K hO d f [] HT.none _ _ HT.none_ok e
  rw [HT.none_den] at e2
  have hx := erunO_ok c.P (fun _ => mdA) c.G K hK c.n d f [] [] _ _ e2
  rw [hG] at hx
  exact closed_xs rfl hx (fun c c' V h => by cases h; exact .bool true) G H
noncomputable def O2 : KnownT := addT O1 21 trueT
noncomputable def K2 : Known := addK K1 21 trueK
theorem O2_sim : KSim O2 K2 := addT_sim O1_sim true_ks
theorem K2_ok : KnownOk Tryz.prog (fun _ => none) K2 := addK_ok K1_ok fun xs H r H' hv => true_ok (c := cfY) rfl O1_sim K1_ok awake_run _ xs H r H' hv
/-- What is given: whether the key is long, has a byte, has no more than 24, and whether the number is not negative. -/
def W4 (b0 b1 b2 b3 : Bool) : Nat → Option Ora := fun f => match f with
  | 4 => some fun t => match t with | 18 => some b0 | _ => none
  | 25 => some fun _ => none
  | 56 => some fun _ => none
  | 63 => some fun _ => none
  | 51 => some fun t => match t with | 14 => some b2 | _ => none
  | 62 => some fun t => match t with | 14 => some b2 | _ => none
  | 95 => some fun t => match t with | 6 => some b1 | _ => none
  | 96 => some fun t => match t with | 5 => some b3 | _ => none
  | _ => none
noncomputable def outG (x : RG) : Option (AV × Obls) := Option.rec none (fun p => some (p.1.1, p.2)) x
end Go.Vi
