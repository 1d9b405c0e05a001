/- IndexNils: true for every key and number. -/
import Derived.Test.YteahbejkncnplaaGreatNyInb
set_option autoImplicit false
set_option linter.unusedVariables false
set_option linter.unusedSimpArgs false
set_option maxRecDepth 1000000
namespace Go.Vi
open Go Go.Proofs
theorem outG_ok {x : RG} {v : AV} {L : Obls} (h : outG x = some (v, L)) : ∃ h', x = some ((v, h'), L) := by
  cases x with
  | none => cases h
  | some p => obtain ⟨⟨a, b⟩, c⟩ := p; cases h; exact ⟨b, rfl⟩
theorem w4_ok (b0 b1 b2 b3 : Bool) : ∀ f, (W4 b0 b1 b2 b3 f).isSome = true → K2 f = none := by
  intro f h
  unfold W4 at h
  split at h <;> first | rfl | (cases h; done)
theorem in_xs {xs : List AV} {b0 b1 b2 b3 : Bool} {L : Obls} (h : outG (runG cfY O2 (W4 b0 b1 b2 b3) 30 4 xs HT.none) = some (.bool true, L)) (hL : oksL L) : XS Tryz.prog (fun _ => none) 4 xs [] fun r H => r = .bool true := by
  obtain ⟨h', e⟩ := outG_ok h
  have := runG_xs (c := cfY) O2_sim K2_ok (w4_ok b0 b1 b2 b3) HT.none_ok e hL
  rw [HT.none_den] at this
  exact this.mono fun r1 H1 hr => hr.1
theorem ob_ok {r : List (List AV)} {n : Int} {b0 b1 b2 b3 : Bool} (l : List Nat) (h0 : decide (40 < r.length) = b0) (h1 : (!decide (r.length < 1)) = b1) (h2 : 2 ∈ l → (!decide (24 < r.length)) = b2) (h3 : 3 ∈ l → (!decide (n < 0)) = b3) : oksL (l.map (ob r n b0 b1 b2 b3)) := by
  intro p hp
  obtain ⟨k, hk, rfl⟩ := List.mem_map.1 hp
  have c1 : ltN 40 (Int.ofNat (lenL r)) = decide (40 < r.length) := by
    rw [ltN_eq, lenL_eq]
    congr 1
    simp only [eq_iff_iff]
    exact (show (40 : Int) < (r.length : Int) ↔ 40 < r.length by omega)
  have c2 : ltN (Int.ofNat (lenL r)) 1 = decide (r.length < 1) := by
    rw [ltN_eq, lenL_eq]
    congr 1
    simp only [eq_iff_iff]
    exact (show (r.length : Int) < 1 ↔ r.length < 1 by omega)
  have c3 : ltN 24 (Int.ofNat (lenL r)) = decide (24 < r.length) := by
    rw [ltN_eq, lenL_eq]
    congr 1
    simp only [eq_iff_iff]
    exact (show (24 : Int) < (r.length : Int) ↔ 24 < r.length by omega)
  match k, hk with
  | 0, _ => simp only [ob, AV.same, c1, h0, beq_self_eq_true]
  | 1, _ => simp only [ob, AV.same, c2, h1, beq_self_eq_true]
  | 2, hk => simp only [ob, AV.same, c3, h2 hk, beq_self_eq_true]
  | 3, hk => simp only [ob, AV.same, ltN_eq, h3 hk, beq_self_eq_true]
  | _ + 4, _ => rfl
theorem f4_xs (x : AV) (hx : x = .nils ∨ ∃ r, x = .list .loose r) (n : Int) : XS Tryz.prog (fun _ => none) 4 [x, .int .i64 n] [] fun r H => r = .bool true := by
  rcases hx with rfl | ⟨r, rfl⟩
  · exact in_xs (factN n) (ob_ok _ rfl rfl (fun h => by simp at h) (fun h => by simp at h))
  by_cases q0 : 40 < r.length
  · exact in_xs (factA r n) (ob_ok _ (by simp [q0]) (by rw [decide_eq_false (by omega)]; rfl) (fun h => by simp at h) (fun h => by simp at h))
  by_cases q1 : r.length < 1
  · exact in_xs (factE r n) (ob_ok _ (by simp [q0]) (by simp [q1]) (fun h => by simp at h) (fun h => by simp at h))
  by_cases q2 : 24 < r.length
  · exact in_xs (factD r n) (ob_ok _ (by simp [q0]) (by simp [q1]) (fun h => by simp [q2]) (fun h => by simp at h))
  by_cases q3 : n < 0
  · exact in_xs (factC r n) (ob_ok _ (by simp [q0]) (by simp [q1]) (fun h => by simp [q2]) (fun h => by simp [q3]))
  · exact in_xs (factB r n) (ob_ok _ (by simp [q0]) (by simp [q1]) (fun h => by simp [q2]) (fun h => by simp [q3]))
end Go.Vi
