/- SpaceRefuses: for every text. -/
import Derived.Test.YteahbejkncnplaaGreatNyY
set_option autoImplicit false
set_option linter.unusedVariables false
set_option maxRecDepth 1000000
namespace Go.Vi
open Go Go.Proofs
theorem sameLL_strRows (s : ByteArray) : sameLL (strRows s) (strRows s) = true := by
  unfold strRows
  generalize s.data.toList = l
  induction l with
  | nil => rfl
  | cons b r ih => simp only [List.map_cons, sameLL, sameL, AV.same, ih]; simp
theorem okL0 (s : ByteArray) : okL (L0 s) := by
  have hS : AV.same (.str s) (.str s) = true := by simp [AV.same]
  have hB : AV.same (.list .loose (strRows s)) (.list .loose (strRows s)) = true := by simp [AV.same, sameLL_strRows]
  have h1 : okL (L1 s) := fun p hp => by
    simp only [L1, List.mem_cons, List.not_mem_nil, or_false] at hp
    rcases hp with rfl | rfl | rfl | rfl | rfl | rfl | rfl | rfl <;> first | exact hS | exact hB
  intro p hp
  rcases List.mem_append.1 hp with hp | hp
  · exact h1 p hp
  · exact (List.mem_append.1 hp).elim (h1 p) (h1 p)
theorem vc_condT {X : Sem1} {P : Program} {md : Oper → Md} {G : Glob} {nb t : Nat} {A B : Code} {Q : Qv} {env : List AV} {H : Hp} {b : Bool} (h : env[t]? = some (.bool b)) (hA : b = true → vcode X P md G nb A Q env H) (hB : b = false → vcode X P md G nb B Q env H) : vcode X P md G nb (.cond (.tmp t) A B) Q env H := by
  simp only [vcode, ev, h]
  cases b with
  | true => rw [if_pos rfl]; exact hA rfl
  | false => rw [if_neg (by decide)]; exact hB rfl
theorem f3_xs (s : ByteArray) : XS Tryz.prog (fun _ => none) 3 (aS s) [] fun r H => r = .bool true := by
  have hF : FSim F2 (erunO Tryz.prog (fun _ => mdA) (fun _ => none) K2 4000 30) := runF_eq cfY O2 K2 O2_sim 30
  have hR : RecOk Tryz.prog (fun _ => none) (erunO Tryz.prog (fun _ => mdA) (fun _ => none) K2 4000 30) := erunO_ok Tryz.prog _ _ K2 (K2_ok _) 4000 30
  refine (XS.pre Tryz.prog (fun _ => none)).body 3 Tryz.f3 b0 mdA (aS s) [] _ Tryz.func3 (by kernel_rfl) ?_
  obtain ⟨e1, e2⟩ := fenv_eq (N := Tryz.f3.ntmps) (args := aS s) (Nat.le_of_ble_eq_true (by kernel_rfl))
  rw [← e2, ← HT.none_den]
  -- the pieces
  have f1 := fact1 s
  have f2 := fact2 s
  have f3 := fact3 s
  cases hp : pre s with
  | none => rw [hp] at f1; cases f1
  | some q =>
    rw [hp] at f1 f2 f3
    unfold pre at hp
    obtain ⟨q0, g0, hp⟩ := Option.bind_eq_some_iff.1 hp
    obtain ⟨q1, g1, hp⟩ := Option.bind_eq_some_iff.1 hp
    obtain ⟨q2, g2, hp⟩ := Option.bind_eq_some_iff.1 hp
    obtain ⟨q3, g3, hp⟩ := Option.bind_eq_some_iff.1 hp
    obtain ⟨a0, c0, d0⟩ := stepC_ok hF hR (p := p0 s) e1 HT.none_ok g0
    obtain ⟨a1, c1, d1⟩ := stepC_ok hF hR a0 c0 g1
    obtain ⟨a2, c2, d2⟩ := stepC_ok hF hR a1 c1 g2
    obtain ⟨a3, c3, d3⟩ := stepC_ok hF hR a2 c2 g3
    obtain ⟨a4, c4, d4⟩ := stepC_ok hF hR a3 c3 hp
    refine vc_seqT (by kernel_rfl) (d0 _ _ ?_)
    refine vc_seqT (x := b1) (by kernel_rfl) (d1 _ _ ?_)
    refine vc_seqT (x := b2) (by kernel_rfl) (d2 _ _ ?_)
    refine vc_seqT (x := b3) (by kernel_rfl) (d3 _ _ ?_)
    refine vc_seqT (x := b4) (by kernel_rfl) ?_
    refine vc_seqT (x := sl b4) (by kernel_rfl) (d4 _ _ ?_)
    have hc : sr (sl b4) = .cond (.tmp 44) (ct (sr (sl b4))) .skip := by kernel_rfl
    have g44 : (q.1.toL Tryz.f3.ntmps)[44]? = some (.bool (ltN 300 (Int.ofNat s.size))) := by
      rw [a4.toL_get]
      exact Option.some.inj f1
    rw [hc]
    refine vc_condT g44 (fun hb => ?_) (fun hb => ?_)
    · exact finR_ok (c := cfY) hF hR (fn := Tryz.f3) a4 c4 f2 _ _ (fun r H => r = .bool true) (fun _ _ h => h) (fun _ => rfl)
    · have f3 : ((cdG cfY F2 Tryz.f3.ntmps b5 q.1 q.2).bind fun q => (finR Tryz.prog Tryz.f3 (some q.1)).map fun v => (v, q.2)) = some (.bool true, L0 s) := f3
      obtain ⟨⟨r, L⟩, k1, k2⟩ := Option.bind_eq_some_iff.1 f3
      obtain ⟨v, k3, k4⟩ := Option.map_eq_some_iff.1 k2
      cases k4
      have k5 := cdG_ok b5 k1 (okL0 s)
      have k6 : finR Tryz.prog Tryz.f3 (cdF b5 cfY F2 Tryz.f3.ntmps q.1 q.2) = some (.bool true) := by rw [k5]; exact k3
      exact finR_ok (c := cfY) hF hR (fn := Tryz.f3) a4 c4 k6 _ _ (fun r H => r = .bool true) (fun _ _ h => h) (fun _ => rfl)
end Go.Vi
