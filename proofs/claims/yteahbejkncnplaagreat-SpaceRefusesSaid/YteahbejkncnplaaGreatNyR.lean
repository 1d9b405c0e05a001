/- What is known, on trees; codes run piece by piece. -/
import Derived.Test.YteahbejkncnplaaGreatNyQ
import Derived.Test.YteahbejkncnplaaGreatViFi
import Derived.KernelRfl
set_option autoImplicit false
set_option linter.unusedVariables false
set_option maxRecDepth 100000
namespace Go.Vi
open Go Go.Proofs
noncomputable def openT (xs : List AV) (h : HT) : Option (AV × HT) := match xs with
  | [.ptr d 0 0] => match h.t.get d with
    | some (.big _ n cs) => if emptyD (cs.toL n) = true then some (.tup [.ptr h.n 0 0, .int .i64 0], h.push (.arr 129 4 1 (Br.ofL [[.ptr d 0 0, .nils, .int .i64 0, .bool false]]))) else none
    | _ => none
  | _ => none
noncomputable def thereT (xs : List AV) (h : HT) : Option (AV × HT) := match xs with
  | [.ptr d 0 0, .int .i64 n] => match h.t.get d with
    | some (.big _ _ cs) => match cs.get 3121, cs.get (1 + n.toNat) with
      | some w, some z => match rowsOfT h w with
        | some rows => if (decide (0 ≤ n) && decide (n < 3120) && slv w && slv z && rows.all wrOk && decide (rows.length ≤ 1000000)) = true then some ((findW n rows).getD z, h) else none
        | none => none
      | _, _ => none
    | _ => none
  | _ => none
noncomputable def keysT (xs : List AV) (h : HT) : Option (AV × HT) := match xs with
  | [.mapr l] => match h.t.get l with
    | some (.map _) => some (.clo 254 [.ptr h.n 0 0], h.push (.one 248 [.mapr l]))
    | _ => none
  | _ => none
noncomputable def sortedT (xs : List AV) (h : HT) : Option (AV × HT) := match xs with
  | [.clo 254 [.ptr n 0 0]] => match h.t.get n with
    | some (.one 248 [.mapr l]) => match h.t.get l with
      | some (.map es) => if (incr ((es.map (·.1)).foldr insI []) && decide (es.length ≤ 1000000)) = true then some (pl ((es.map (·.1)).foldr insI []), h) else none
      | _ => none
    | _ => none
  | _ => none
def laidT (xs : List AV) (h : HT) : Option (AV × HT) := match xs with
  | [.str _] => some (.undef, h)
  | _ => none
def KS (k : List AV → HT → Option (AV × HT)) (k' : List AV → Hp → Option (AV × Hp)) : Prop := ∀ xs h r h', h.ok → k xs h = some (r, h') → h'.ok ∧ k' xs h.den = some (r, h'.den)
theorem open_ks : KS openT openK := fun xs h r h' k hv => by
  unfold openT at hv
  split at hv
  case h_2 => cases hv
  rename_i d
  split at hv
  case h_2 => cases hv
  rename_i T n cs hd
  split at hv
  case isFalse => cases hv
  rename_i hc
  cases hv
  obtain ⟨e1, e2⟩ := k.at hd
  obtain ⟨f1, f2⟩ := Br.ofL_ex [[AV.ptr d 0 0, .nils, .int .i64 0, .bool false]]
  obtain ⟨g1, g2⟩ := k.push (o := .arr 129 4 1 (Br.ofL [[.ptr d 0 0, .nils, .int .i64 0, .bool false]])) f1
  refine ⟨g1, ?_⟩
  have e1 : h.den[d]? = some (.arr T n [cs.toL n]) := e1
  simp only [openK, e1, hc, if_true, k.len, g2]
  have f2 : (Br.ofL [[AV.ptr d 0 0, .nils, .int .i64 0, .bool false]]).toL 1 = _ := f2
  simp only [VT.den, f2]
theorem there_ks : KS thereT thereK := fun xs h r h' k hv => by
  unfold thereT at hv
  split at hv
  case h_2 => cases hv
  rename_i d m
  split at hv
  case h_2 => cases hv
  rename_i T n cs hd
  split at hv
  case h_2 => cases hv
  rename_i w z h1 h2
  split at hv
  case h_2 => cases hv
  rename_i rows hr
  split at hv
  case isFalse => cases hv
  rename_i hc
  cases hv
  obtain ⟨e1, e2⟩ := k.at hd
  have e2 : cs.ex n := e2
  have e1 : h.den[d]? = some (.arr T n [cs.toL n]) := e1
  refine ⟨k, ?_⟩
  simp only [thereK, e1, e2.toL_get, h1, h2, rowsOfT_eq k hr, hc, if_true]
theorem keys_ks : KS keysT keysK := fun xs h r h' k hv => by
  unfold keysT at hv
  split at hv
  case h_2 => cases hv
  rename_i l
  split at hv
  case h_2 => cases hv
  rename_i es hd
  cases hv
  obtain ⟨e1, e2⟩ := k.at hd
  obtain ⟨g1, g2⟩ := k.push (o := .one 248 [.mapr l]) trivial
  have e1 : h.den[l]? = some (.map es) := e1
  refine ⟨g1, ?_⟩
  simp only [keysK, e1, k.len, g2, VT.den]
theorem sorted_ks : KS sortedT sortedK := fun xs h r h' k hv => by
  unfold sortedT at hv
  split at hv
  case h_2 => cases hv
  rename_i n
  split at hv
  case h_2 => cases hv
  rename_i l hd
  split at hv
  case h_2 => cases hv
  rename_i es hl
  split at hv
  case isFalse => cases hv
  rename_i hc
  cases hv
  obtain ⟨e1, _⟩ := k.at hd
  obtain ⟨e2, _⟩ := k.at hl
  have e1 : h.den[n]? = some (.one 248 [.mapr l]) := e1
  have e2 : h.den[l]? = some (.map es) := e2
  refine ⟨k, ?_⟩
  simp only [sortedK, e1, e2, hc, if_true]
theorem laid_ks : KS laidT laidK := fun xs h r h' k hv => by
  unfold laidT at hv
  split at hv
  case h_2 => cases hv
  cases hv
  exact ⟨k, rfl⟩
/-! ### The tables -/
noncomputable def O1 : KnownT := fun f => match f with
  | 66 => some openT
  | 169 => some thereT
  | 231 => some keysT
  | 230 => some sortedT
  | 20 => some laidT
  | _ => none
def K1 : Known := fun f => match f with
  | 66 => some openK
  | 169 => some thereK
  | 231 => some keysK
  | 230 => some sortedK
  | 20 => some laidK
  | _ => none
theorem O1_sim : KSim O1 K1 := by
  refine ⟨fun f h => ?_, fun f k h => ?_⟩
  · unfold O1 at h
    unfold K1
    split at h <;> first | (cases h; done) | rfl
  · unfold O1 at h
    split at h <;> cases h
    · exact ⟨_, rfl, open_ks⟩
    · exact ⟨_, rfl, there_ks⟩
    · exact ⟨_, rfl, keys_ks⟩
    · exact ⟨_, rfl, sorted_ks⟩
    · exact ⟨_, rfl, laid_ks⟩
theorem K1_ok (G : Glob) : KnownOk Tryz.prog G K1 := fun f k h xs H r H' hv => by
  unfold K1 at h
  split at h <;> cases h
  · exact open_ok G xs H r H' hv
  · exact there_ok G xs H r H' hv
  · exact keys_ok G xs H r H' hv
  · exact sorted_ok G xs H r H' hv
  · exact laid_ok G xs H r H' hv
noncomputable def cfY : Cf := ⟨Tryz.prog, fun _ => none, 4000⟩
end Go.Vi
