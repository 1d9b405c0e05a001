/- Awake of the sets, known. -/
import Derived.Test.YtecjobmgphdjoaaGreatNzAw
import Derived.Test.YtecjobmgphdjoaaGreatViV
set_option autoImplicit false
set_option linter.unusedVariables false
set_option maxRecDepth 1000000
namespace Go.Vi
open Go Go.Proofs Go.RowKit
theorem awake_xs : XS Tryz.prog (fun _ => none) 4 [] [] fun r H => r = .bool true := by
  refine XS.bodyP (fn := Tryz.f4) (code := cA) Tryz.func4 (by kernel_rfl) ?_
  have h := pieceK_ok (c := cfY) F2_sim R2_ok (Q := fnQ Tryz.prog Tryz.f4 fun r H => r = .bool true) (by kernel_rfl) pc1
    (pieceK_ok (c := cfY) F2_sim R2_ok (by kernel_rfl) pc2 (pieceK_ok (c := cfY) F2_sim R2_ok (by kernel_rfl) pc3 (last_ok (c := cfY) F2_sim R2_ok pc4)))
  exact h
def trueK (xs : List AV) (H : Hp) : Option (AV × Hp) := match xs with
  | [] => some (.bool true, H)
  | _ => none
def trueT (xs : List AV) (h : HT) : Option (AV × HT) := match xs with
  | [] => some (.bool true, h)
  | _ => none
theorem true_ks : KS trueT trueK := fun xs h r h' k hv => by
  unfold trueT at hv
  split at hv
  case h_2 => cases hv
  cases hv
  exact ⟨k, rfl⟩
/-- What a call without arguments gives, over whatever lies. -/
theorem closed_xs {P : Program} {f : Nat} {b : Bool} (hx : XS P (fun _ => none) f [] [] fun r1 H1 => r1 = .bool b) (G : Glob) (H : Hp) : XS P G f [] H fun r1 H1 => r1 = .bool b ∧ H1 = H := by
  intro c Vs s hg hl hr
  match Vs, hl with
  | [], _ =>
    have s0 : Sim { w := c.w, I := fun _ => False, B := fun _ => False, ρ := fun _ => none } [] := ⟨fun _ h => h.elim, fun _ h => h.elim, fun l o h => by simp at h, fun l l' cl cl' h => by obtain ⟨o, h, _⟩ := h; simp at h, fun _ _ => rfl⟩
    refine (hx _ [] s0 (fun g cs h => by cases h) rfl (fun j x V h => by simp at h)).mono ?_
    rintro e w' ⟨r1, H1, c', V, rfl, rfl, t, hV, rfl⟩
    have hB : Below c.w.heap.size c.w c'.w := ⟨t.ext.os, t.ext.tape, t.ext.output, t.ext.size, fun b hb => t.ext.frame b hb fun ⟨l, cl, ⟨o, h, _⟩, _⟩ => by simp at h⟩
    cases hV
    exact ⟨_, _, { c with w := c'.w }, _, rfl, rfl, To.belowS s hB, .bool _, rfl, rfl⟩
noncomputable def O3 : KnownT := addT O2 4 trueT
noncomputable def K3 : Known := addK K2 4 trueK
theorem O3_sim : KSim O3 K3 := addT_sim O2_sim true_ks
theorem K3_ok : KnownOk Tryz.prog (fun _ => none) K3 := addK_ok K2_ok fun xs H r H' hv => by
  unfold trueK at hv
  split at hv
  case h_2 => cases hv
  cases hv
  exact closed_xs awake_xs _ H
def W3 (b0 : Bool) : Nat → Option Ora := fun f => match f with
  | 3 => some fun t => match t with | 25 => some b0 | _ => none
  | _ => none
noncomputable def outG (x : RG) : Option (AV × Obls) := Option.rec none (fun p => some (p.1.1, p.2)) x
theorem outG_ok {x : RG} {v : AV} {L : Obls} (h : outG x = some (v, L)) : ∃ h', x = some ((v, h'), L) := by
  cases x with
  | none => cases h
  | some p => obtain ⟨⟨a, b⟩, c⟩ := p; cases h; exact ⟨b, rfl⟩
theorem w3_ok (b0 : Bool) : ∀ f, (W3 b0 f).isSome = true → K3 f = none := by
  intro f h
  unfold W3 at h
  split at h <;> first | rfl | (cases h; done)
theorem factA (n : Int) (s : ByteArray) : outG (runG cfY O3 (W3 true) 30 3 [.int .i64 n, .str s] HT.none) = some (.bool true, [(.bool (ltN 100 (Int.ofNat s.size)), .bool true)]) := by kernel_rfl
theorem factB (n : Int) (s : ByteArray) : outG (runG cfY O3 (W3 false) 30 3 [.int .i64 n, .str s] HT.none) = some (.bool true, [(.bool (ltN 100 (Int.ofNat s.size)), .bool false)]) := by kernel_rfl
theorem f3_xs (n : Int) (s : ByteArray) : XS Tryz.prog (fun _ => none) 3 [.int .i64 n, .str s] [] fun r H => r = .bool true := by
  have key : ∀ (b : Bool), outG (runG cfY O3 (W3 b) 30 3 [.int .i64 n, .str s] HT.none) = some (.bool true, [(.bool (ltN 100 (Int.ofNat s.size)), .bool b)]) → ltN 100 (Int.ofNat s.size) = b → XS Tryz.prog (fun _ => none) 3 [.int .i64 n, .str s] [] fun r H => r = .bool true := fun b h hb => by
    obtain ⟨h', e⟩ := outG_ok h
    have := runG_xs (c := cfY) O3_sim K3_ok (w3_ok b) HT.none_ok e (fun p hp => by
      have := List.mem_singleton.1 hp
      subst this
      show (ltN 100 (Int.ofNat s.size) == b) = true
      rw [hb]
      exact beq_self_eq_true b)
    rw [HT.none_den] at this
    exact this.mono fun r1 H1 hr => hr.1
  cases hb : ltN 100 (Int.ofNat s.size) with
  | true => exact key true (factA n s) hb
  | false => exact key false (factB n s) hb
end Go.Vi
