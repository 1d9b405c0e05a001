/- What is known, on trees; codes run piece by piece. -/
import Derived.Test.YteejggadbifdbaaGreatNrIc
import Derived.Test.YteejggadbifdbaaGreatNrJ
import Derived.Test.YteejggadbifdbaaGreatViFi
import Derived.KernelRfl
set_option autoImplicit false
set_option linter.unusedVariables false
set_option maxRecDepth 100000
namespace Go.Vi
open Go Go.Proofs
noncomputable def openT (xs : List AV) (h : HT) : Option (AV × HT) := match xs with
  | [.ptr d 0 0] => match h.t.get d with
    | some (.big _ n cs) => if emptyD (cs.toL n) = true then some (.tup [.ptr h.n 0 0, .int .i64 0], h.push (.arr 153 4 1 (Br.ofL [[.ptr d 0 0, .nils, .int .i64 0, .bool false]]))) else none
    | _ => none
  | _ => none
noncomputable def thereT (xs : List AV) (h : HT) : Option (AV × HT) := match xs with
  | [.ptr d 0 0, .int .i64 n] => match h.t.get d with
    | some (.big _ _ cs) => match cs.get 3121, cs.get (1 + n.toNat) with
      | some w, some z => match rowsOfT h w with
        | some rows => if (decide (0 ≤ n) && decide (n < 3120) && slv w && slv z && rows.all wrOk && decide (rows.length ≤ 1000000)) = true then some ((findW n rows).getD z, h) else none
        | none => none
      | _, _ => none
    | _ => none
  | _ => none
noncomputable def keysT (xs : List AV) (h : HT) : Option (AV × HT) := match xs with
  | [.mapr l] => match h.t.get l with
    | some (.map _) => some (.clo 214 [.ptr h.n 0 0], h.push (.one 219 [.mapr l]))
    | _ => none
  | _ => none
noncomputable def sortedT (xs : List AV) (h : HT) : Option (AV × HT) := match xs with
  | [.clo 214 [.ptr n 0 0]] => match h.t.get n with
    | some (.one 219 [.mapr l]) => match h.t.get l with
      | some (.map es) => if (incr ((es.map (·.1)).foldr insI []) && decide (es.length ≤ 1000000)) = true then some (pl ((es.map (·.1)).foldr insI []), h) else none
      | _ => none
    | _ => none
  | _ => none
def KS (k : List AV → HT → Option (AV × HT)) (k' : List AV → Hp → Option (AV × Hp)) : Prop := ∀ xs h r h', h.ok → k xs h = some (r, h') → h'.ok ∧ k' xs h.den = some (r, h'.den)
theorem open_ks : KS openT openK := fun xs h r h' k hv => by
  unfold openT at hv
  split at hv
  case h_2 => cases hv
  rename_i d
  split at hv
  case h_2 => cases hv
  rename_i T n cs hd
  split at hv
  case isFalse => cases hv
  rename_i hc
  cases hv
  obtain ⟨e1, e2⟩ := k.at hd
  obtain ⟨f1, f2⟩ := Br.ofL_ex [[AV.ptr d 0 0, .nils, .int .i64 0, .bool false]]
  obtain ⟨g1, g2⟩ := k.push (o := .arr 153 4 1 (Br.ofL [[.ptr d 0 0, .nils, .int .i64 0, .bool false]])) f1
  refine ⟨g1, ?_⟩
  have e1 : h.den[d]? = some (.arr T n [cs.toL n]) := e1
  simp only [openK, e1, hc, if_true, k.len, g2]
  have f2 : (Br.ofL [[AV.ptr d 0 0, .nils, .int .i64 0, .bool false]]).toL 1 = _ := f2
  simp only [VT.den, f2]
theorem there_ks : KS thereT thereK := fun xs h r h' k hv => by
  unfold thereT at hv
  split at hv
  case h_2 => cases hv
  rename_i d m
  split at hv
  case h_2 => cases hv
  rename_i T n cs hd
  split at hv
  case h_2 => cases hv
  rename_i w z h1 h2
  split at hv
  case h_2 => cases hv
  rename_i rows hr
  split at hv
  case isFalse => cases hv
  rename_i hc
  cases hv
  obtain ⟨e1, e2⟩ := k.at hd
  have e2 : cs.ex n := e2
  have e1 : h.den[d]? = some (.arr T n [cs.toL n]) := e1
  refine ⟨k, ?_⟩
  simp only [thereK, e1, e2.toL_get, h1, h2, rowsOfT_eq k hr, hc, if_true]
theorem keys_ks : KS keysT keysK := fun xs h r h' k hv => by
  unfold keysT at hv
  split at hv
  case h_2 => cases hv
  rename_i l
  split at hv
  case h_2 => cases hv
  rename_i es hd
  cases hv
  obtain ⟨e1, e2⟩ := k.at hd
  obtain ⟨g1, g2⟩ := k.push (o := .one 219 [.mapr l]) trivial
  have e1 : h.den[l]? = some (.map es) := e1
  refine ⟨g1, ?_⟩
  simp only [keysK, e1, k.len, g2, VT.den]
theorem sorted_ks : KS sortedT sortedK := fun xs h r h' k hv => by
  unfold sortedT at hv
  split at hv
  case h_2 => cases hv
  rename_i n
  split at hv
  case h_2 => cases hv
  rename_i l hd
  split at hv
  case h_2 => cases hv
  rename_i es hl
  split at hv
  case isFalse => cases hv
  rename_i hc
  cases hv
  obtain ⟨e1, _⟩ := k.at hd
  obtain ⟨e2, _⟩ := k.at hl
  have e1 : h.den[n]? = some (.one 219 [.mapr l]) := e1
  have e2 : h.den[l]? = some (.map es) := e2
  refine ⟨k, ?_⟩
  simp only [sortedK, e1, e2, hc, if_true]
noncomputable def insT (T : TypeId) (xs : List AV) (h : HT) : Option (AV × HT) := match xs with
  | [.row _ l i n, .int .i64 a, .row _ l2 i2 1] => match h.t.get l, h.t.get l2 with
    | some (.arr T1 2 N rows), some (.arr _ 2 _ rows2) => match rows2.get i2 with
      | some r2 => if (T1 == T && l != l2 && decide (0 ≤ a) && decide (a.toNat < n) && decide (i + n ≤ N) && decide (n ≤ 1000000)) = true then
          some (.row false h.n 0 (n + 1), (h.set l .dead).push (.arr T 2 (n + 1) (Br.ofL ((rows.seg i n).take a.toNat ++ ([r2] ++ (rows.seg i n).drop a.toNat))))) else none
      | none => none
    | _, _ => none
  | _ => none
theorem ins_ks (T : TypeId) : KS (insT T) (insK T) := fun xs h r h' k hv => by
  unfold insT at hv
  split at hv
  case h_2 => cases hv
  rename_i t l i n a t2 l2 i2
  split at hv
  case h_2 => cases hv
  rename_i T1 N rows T2 N2 rows2 hl hl2
  split at hv
  case h_2 => cases hv
  rename_i r2 hr2
  split at hv
  case isFalse => cases hv
  rename_i hc
  cases hv
  obtain ⟨e1, e2⟩ := k.at hl
  obtain ⟨f1, f2⟩ := k.at hl2
  have e2 : rows.ex N := e2
  have f2 : rows2.ex N2 := f2
  have e1 : h.den[l]? = some (.arr T1 2 (rows.toL N)) := e1
  have f1 : h.den[l2]? = some (.arr T2 2 (rows2.toL N2)) := f1
  have hc' := hc
  simp only [Bool.and_eq_true, beq_iff_eq, bne_iff_ne, ne_eq, decide_eq_true_eq] at hc'
  obtain ⟨⟨⟨⟨⟨c1, c2⟩, c3⟩, c4⟩, c5⟩, c6⟩ := hc'
  have hs : rows.seg i n = ((rows.toL N).drop i).take n := e2.seg c5
  have hlen : ((rows.seg i n).take a.toNat ++ ([r2] ++ (rows.seg i n).drop a.toNat)).length = n + 1 := by
    rw [hs]
    simp only [List.length_append, List.length_take, List.length_drop, List.length_cons, List.length_nil, e2.len]
    omega
  obtain ⟨g1, g2⟩ := Br.ofL_ex ((rows.seg i n).take a.toNat ++ ([r2] ++ (rows.seg i n).drop a.toNat))
  rw [hlen] at g1 g2
  obtain ⟨p1, p2⟩ := k.set (o := .dead) hl trivial
  obtain ⟨q1, q2⟩ := p1.push (o := .arr T 2 (n + 1) (Br.ofL ((rows.seg i n).take a.toNat ++ ([r2] ++ (rows.seg i n).drop a.toNat)))) g1
  refine ⟨q1, ?_⟩
  have hN : (rows.toL N).length = N := e2.len
  have hc2 : (T1 == T && l != l2 && decide (0 ≤ a) && decide (a.toNat < n) && decide (i + n ≤ (rows.toL N).length) && decide (n ≤ 1000000)) = true := by rw [hN]; exact hc
  simp only [insK, e1, f1, f2.toL_get, hr2, hc2, if_true, k.len, q2, p2]
  simp only [VT.den, g2]
  rw [hs]
/-! ### The tables -/
noncomputable def O0 : KnownT := fun f => match f with
  | 42 => some openT
  | 108 => some thereT
  | 183 => some keysT
  | 182 => some sortedT
  | _ => none
def K0 : Known := fun f => match f with
  | 42 => some openK
  | 108 => some thereK
  | 183 => some keysK
  | 182 => some sortedK
  | _ => none
theorem O0_sim : KSim O0 K0 := by
  refine ⟨fun f h => ?_, fun f k h => ?_⟩
  · unfold O0 at h
    unfold K0
    split at h <;> first | (cases h; done) | rfl
  · unfold O0 at h
    split at h <;> cases h
    · exact ⟨_, rfl, open_ks⟩
    · exact ⟨_, rfl, there_ks⟩
    · exact ⟨_, rfl, keys_ks⟩
    · exact ⟨_, rfl, sorted_ks⟩
theorem K0_ok (G : Glob) : KnownOk Tryz.prog G K0 := fun f k h xs H r H' hv => by
  unfold K0 at h
  split at h <;> cases h
  · exact open_ok G xs H r H' hv
  · exact there_ok G xs H r H' hv
  · exact keys_ok G xs H r H' hv
  · exact sorted_ok G xs H r H' hv
noncomputable def cfY : Cf := ⟨Tryz.prog, fun _ => none, 4000⟩
/-- Known by its arguments, or run. -/
noncomputable def selT (p : List AV → Bool) (k k2 : List AV → HT → Option (AV × HT)) (xs : List AV) (h : HT) : Option (AV × HT) := match p xs with
  | true => k xs h
  | false => k2 xs h
noncomputable def selK (p : List AV → Bool) (k k2 : List AV → Hp → Option (AV × Hp)) (xs : List AV) (H : Hp) : Option (AV × Hp) := match p xs with
  | true => k xs H
  | false => k2 xs H
theorem sel_ks {p : List AV → Bool} {k k2 : List AV → HT → Option (AV × HT)} {k' k2' : List AV → Hp → Option (AV × Hp)} (h1 : KS k k') (h2 : KS k2 k2') : KS (selT p k k2) (selK p k' k2') := fun xs h r h' hh hv => by
  unfold selT at hv
  unfold selK
  split at hv
  · exact h1 xs h r h' hh hv
  · exact h2 xs h r h' hh hv
theorem run_ks {c : Cf} {O : KnownT} {K : Known} (hO : KSim O K) (d g : Nat) : KS (runF c O d g) (erunO c.P (fun _ => mdA) c.G K c.n d g) := fun xs h r h' hh hv => runF_eq c O K hO d g xs h r h' hh hv
/-- One more function. -/
noncomputable def addT (O : KnownT) (g : Nat) (k : List AV → HT → Option (AV × HT)) : KnownT := fun f => match Nat.beq f g with
  | true => some k
  | false => O f
noncomputable def addK (K : Known) (g : Nat) (k : List AV → Hp → Option (AV × Hp)) : Known := fun f => match Nat.beq f g with
  | true => some k
  | false => K f
theorem addT_sim {O : KnownT} {K : Known} {g : Nat} {k : List AV → HT → Option (AV × HT)} {k' : List AV → Hp → Option (AV × Hp)} (h : KSim O K) (hk : KS k k') : KSim (addT O g k) (addK K g k') := by
  refine ⟨fun f hf => ?_, fun f k1 hf => ?_⟩
  · unfold addT at hf
    unfold addK
    split at hf
    · cases hf
    · exact h.1 f hf
  · unfold addT at hf
    unfold addK
    split at hf
    · cases hf; exact ⟨_, rfl, hk⟩
    · exact h.2 f k1 hf
theorem addK_ok {P : Program} {G : Glob} {K : Known} {g : Nat} {k : List AV → Hp → Option (AV × Hp)} (h : KnownOk P G K) (hk : ∀ xs H r H', k xs H = some (r, H') → XS P G g xs H fun r1 H1 => r1 = r ∧ H1 = H') : KnownOk P G (addK K g k) := fun f k1 hf xs H r H' hv => by
  unfold addK at hf
  split at hf
  · rename_i hb
    cases hf
    have := Nat.eq_of_beq_eq_true hb
    subst this
    exact hk xs H r H' hv
  · exact h f k1 hf xs H r H' hv
def insP : List AV → Bool
  | [.row _ _ _ n, .int _ a, _] => Nat.blt a.toNat n
  | _ => false
noncomputable def O1a : KnownT := addT O0 298 (selT insP (insT 187) (runF cfY O0 12 298))
noncomputable def K1a : Known := addK K0 298 (selK insP (insK 187) (erunO Tryz.prog (fun _ => mdA) (fun _ => none) K0 4000 12 298))
theorem O1a_sim : KSim O1a K1a := addT_sim O0_sim (sel_ks (ins_ks 187) (run_ks (c := cfY) O0_sim 12 298))
theorem K1a_ok : KnownOk Tryz.prog (fun _ => none) K1a := addK_ok (K0_ok _) fun xs H r H' hv => by
  unfold selK at hv
  split at hv
  · exact ins_ok _ xs H r H' hv
  · exact erunO_ok Tryz.prog (fun _ => mdA) (fun _ => none) K0 (K0_ok _) 4000 12 298 xs H r H' hv
noncomputable def O1 : KnownT := addT O1a 38 (selT insP (insT 76) (runF cfY O0 12 38))
noncomputable def K1 : Known := addK K1a 38 (selK insP (insK 76) (erunO Tryz.prog (fun _ => mdA) (fun _ => none) K0 4000 12 38))
theorem O1_sim : KSim O1 K1 := addT_sim O1a_sim (sel_ks (ins_ks 76) (run_ks (c := cfY) O0_sim 12 38))
theorem K1_ok : KnownOk Tryz.prog (fun _ => none) K1 := addK_ok K1a_ok fun xs H r H' hv => by
  unfold selK at hv
  split at hv
  · exact ins_ok2 _ xs H r H' hv
  · exact erunO_ok Tryz.prog (fun _ => mdA) (fun _ => none) K0 (K0_ok _) 4000 12 38 xs H r H' hv
end Go.Vi
