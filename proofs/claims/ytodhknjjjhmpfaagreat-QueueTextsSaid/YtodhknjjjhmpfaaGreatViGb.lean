/- Vi, part Gb: code in pieces; between them the objects that count get new names, the others are left behind. -/
import Derived.Test.YtodhknjjjhmpfaaGreatViGa
set_option autoImplicit false
set_option linter.unusedVariables false
set_option linter.unusedSimpArgs false
set_option maxRecDepth 100000
namespace Go.Vi
open Go

/-- What code does from a state, whatever the machine's side is. -/
def Pc (P : Program) (G : Glob) (nb : Nat) (code : Code) (Q : Qv) (env : List AV) (H : Hp) : Prop :=
  ∀ (c : Cx) (a : Act), Sim c H → nb ≤ H.length → GOK c G → EnvR c env a.tmps → a.defers = [] → code.wp P (Post nb c H Q) a c.w
section
variable {P : Program} {G : Glob} {nb : Nat} {Q : Qv} {env env2 : List AV} {H H2 : Hp} {x y : Code}
theorem Pc.of {md : Oper → Md} (h : vcode (XS P G) P md G nb x Q env H) : Pc P G nb x Q env H := fun c a s hn hg he hd => vcode_sound x Q env H h c a s hn hg he hd
theorem Pc.mono {Q' : Qv} (h : Pc P G nb x Q env H) (hq : ∀ e env H, Q e env H → Q' e env H) : Pc P G nb x Q' env H := fun c a s hn hg he hd =>
  wp_mono (h c a s hn hg he hd) fun e a w hp => hp.mono hq
theorem Pc.seq (h : Pc P G nb x (thenQ (fun env H => Pc P G nb y Q env H) Q) env H) : Pc P G nb (.seq x y) Q env H := fun c a s hn hg he hd => by
  refine wp_seq (wp_mono (h c a s hn hg he hd) fun e a' w' hp => ?_)
  cases e with
  | normal =>
    obtain ⟨env', H', c', rfl, t, h3, h4, h5⟩ := hp
    exact wp_mono (h5 c' a' t.sim t.len (hg.fo t) h3 h4) fun e a w hp => hp.transF t
  | _ => exact hp
theorem Pc.ren {σ : List Nat} (r : Renames nb σ H H2) (hE : RenE σ env env2) (hN : ∀ y ∈ env, valN nb H y) (h : Pc P G nb x Q env H) : Pc P G nb x Q env2 H2 := fun c a s hn hg he hd =>
  wp_mono (h (renCx nb σ H c) a (r.sim s) r.len hg.ren (he.ren hE hN) hd) fun e a w hp => hp.transF (Fo.ren r s)
theorem XS.bodyP {f : Nat} {fn : Func} {code : Code} {args : List AV} {H : Hp} {K : AV → Hp → Prop} (hf : P.funcs[f]? = some fn) (hb : fn.body = some code)
    (h : Pc P G H.length code (fnQ P fn K) (args ++ List.replicate (fn.ntmps - args.length) .undef) H) : XS P G f args H K := by
  intro c Vs s hg hl hr
  refine calls_of_wp hf hb ?_
  have he : EnvR c (args ++ List.replicate (fn.ntmps - args.length) .undef) (Vs.toArray ++ Array.replicate (fn.ntmps - Vs.toArray.size) undef) := by
    refine ⟨by simp [hl], fun t x V hx hV => ?_⟩
    by_cases ht : t < args.length
    · rw [List.getElem?_append_left ht] at hx
      rw [Array.getElem?_append_left (by simpa [← hl] using ht)] at hV
      exact hr t x V hx (by simpa using hV)
    · rw [List.getElem?_append_right (by omega)] at hx
      have := List.mem_of_getElem? hx
      rw [List.eq_of_mem_replicate this]
      exact .undef V
  refine wp_mono (h c _ s (Nat.le_refl _) hg he rfl) fun e a w hp => ?_
  obtain ⟨env', H', c', rfl, t, h3, h4, h5⟩ := hp
  have t := t.to s
  have fin : (match vres P H' fn env' with | some r => K r H' | none => False) → a.defers = [] ∧ ∃ v, (results fn a.tmps).run P c'.w = .ok v c'.w ∧ ∃ r H'' c'' V, Ending.returned v = .returned V ∧ c'.w = c''.w ∧ To c H c'' H'' ∧ Rel c'' r V ∧ K r H'' := by
    intro h5
    split at h5
    · rename_i r hv
      obtain ⟨V, v1, v2⟩ := vres_sound (P := P) t.sim h3 hv
      exact ⟨h4, V, v1, r, H', c', V, rfl, rfl, t, v2, h5⟩
    · exact h5.elim
  cases e with
  | normal => exact fin h5
  | ret => exact fin h5
  | _ => exact h5.elim
end

/-! ### Whether one state is another one under new names, computed -/
def sameM : List (Int × AV) → List (Int × AV) → Bool
  | [], [] => true
  | x :: r, y :: s => decide (x.1 = y.1) && AV.same x.2 y.2 && sameM r s
  | _, _ => false
theorem sameM_eq : ∀ {a b : List (Int × AV)}, sameM a b = true → a = b
  | [], [], _ => rfl
  | [], _ :: _, h => by cases h
  | _ :: _, [], h => by cases h
  | (k, x) :: r, (k', y) :: s, h => by
    simp only [sameM, Bool.and_eq_true, decide_eq_true_eq] at h
    obtain ⟨⟨rfl, h2⟩, h3⟩ := h
    rw [AV.same_eq h2, sameM_eq h3]
def sameO : VO → VO → Bool
  | .arr T sz r, .arr T' sz' r' => Nat.beq T T' && Nat.beq sz sz' && sameLL r r'
  | .one T cs, .one T' cs' => Nat.beq T T' && sameL cs cs'
  | .map es, .map es' => sameM es es'
  | _, _ => false
theorem sameO_eq {a b : VO} (h : sameO a b = true) : a = b := by
  cases a <;> cases b <;> simp only [sameO, Bool.and_eq_true, Bool.false_eq_true] at h
  · obtain ⟨⟨h1, h2⟩, h3⟩ := h
    rw [Nat.eq_of_beq_eq_true h1, Nat.eq_of_beq_eq_true h2, sameLL_eq h3]
  · rw [sameM_eq h]
  · obtain ⟨h1, h3⟩ := h
    rw [Nat.eq_of_beq_eq_true h1, sameL_eq h3]
noncomputable def renOB (σ : List Nat) (o o' : VO) : Bool := match renO σ o with
  | some z => sameO z o'
  | none => false
noncomputable def renHB (σ : List Nat) (g : Nat → Option VO) : List Nat → Hp → Bool
  | [], [] => true
  | l :: s, o :: r => (match g l with
    | some o' => renOB σ o o'
    | none => false) && renHB σ g s r
  | _, _ => false
theorem renHB_ok {σ : List Nat} {H2 : Hp} {g : Nat → Option VO} (hg : ∀ l, g l = H2[l]?) : ∀ {s : List Nat} {H : Hp}, renHB σ g s H = true → RenH σ H2 s H
  | [], [], _ => trivial
  | l :: s, o :: r, h => by
    simp only [renHB, Bool.and_eq_true] at h
    refine ⟨.inr ?_, renHB_ok hg h.2⟩
    have h1 := h.1
    split at h1
    · rename_i o' ho'
      unfold renOB at h1
      split at h1
      · rename_i z hz
        obtain rfl := sameO_eq h1
        exact ⟨_, (hg l).symm.trans ho', hz⟩
      · cases h1
    · cases h1
  | [], _ :: _, h => by cases h
  | _ :: _, [], h => by cases h
def isU : AV → Bool
  | .undef => true
  | _ => false
noncomputable def renEB (σ : List Nat) (g : Nat → Option AV) : Nat → List AV → Bool
  | _, [] => true
  | i, y :: r => (match isU y with
    | true => true
    | false => match g i, ren1 σ y with
      | some x, some z => AV.same z x
      | _, _ => false) && renEB σ g (Nat.succ i) r
theorem renEB_ok {σ : List Nat} {g : Nat → Option AV} : ∀ {i : Nat} {e e2 : List AV}, renEB σ g i e = true → e.length = e2.length → (∀ j, g (i + j) = e2[j]?) → RenE σ e e2
  | i, [], [], _, _, _ => trivial
  | i, y :: r, x :: s, h, hl, hg => by
    simp only [renEB, Bool.and_eq_true] at h
    refine ⟨?_, renEB_ok (i := i + 1) h.2 (by simpa using hl) (fun j => by have := hg (j + 1); rw [show i + 1 + j = i + (j + 1) by omega]; simpa using this)⟩
    have h1 := h.1
    split at h1
    · rename_i hu
      left
      cases y <;> first | rfl | cases hu
    · split at h1
      · rename_i x' z hx hz
        right
        have := hg 0
        rw [Nat.add_zero, hx] at this
        cases this
        rw [hz, AV.same_eq h1]
      · cases h1
  | i, [], _ :: _, _, hl, _ => by simp at hl
  | i, _ :: _, [], _, hl, _ => by simp at hl
def leafQ (m : Nat) : AV → Bool
  | .ptr l _ _ | .row _ l _ _ | .sub l _ _ _ _ | .mapr l => Nat.blt l m
  | _ => true
def valB' (m : Nat) : AV → Bool
  | .agg cs | .clo _ cs => cs.all (leafQ m)
  | x => leafQ m x
def objB' (m : Nat) : VO → Bool
  | .arr _ _ rows => rows.all fun r => r.all (leafQ m)
  | .one _ cs => cs.all (leafQ m)
  | .map es => es.all fun e => leafQ m e.2
  | _ => false
theorem blt_lt {a b : Nat} (h : Nat.blt a b = true) : a < b := by rwa [Nat.blt_eq] at h
theorem leafQ_ok {H : Hp} (hl : ∀ l, l < H.length → live H l) {x : AV} (h : leafQ H.length x = true) : leafN 0 H x := by
  cases x with
  | ptr l i k => exact .inr (hl _ (blt_lt h))
  | row t l i n => exact .inr (hl _ (blt_lt h))
  | sub l i k e n => exact .inr (hl _ (blt_lt h))
  | mapr l => exact .inr (hl _ (blt_lt h))
  | _ => trivial
theorem valB_ok {H : Hp} (hl : ∀ l, l < H.length → live H l) {x : AV} (h : valB' H.length x = true) : valN 0 H x := by
  cases x with
  | agg cs => exact fun y hy => leafQ_ok hl (List.all_eq_true.1 h y hy)
  | clo f cs => exact fun y hy => leafQ_ok hl (List.all_eq_true.1 h y hy)
  | ptr l i k => exact leafQ_ok (x := .ptr l i k) hl h
  | row t l i n => exact leafQ_ok (x := .row t l i n) hl h
  | sub l i k e n => exact leafQ_ok (x := .sub l i k e n) hl h
  | mapr l => exact leafQ_ok (x := .mapr l) hl h
  | _ => trivial
theorem objB_ok {H : Hp} (hl : ∀ l, l < H.length → live H l) {o : VO} (h : objB' H.length o = true) : objN 0 H o := by
  cases o with
  | arr T sz rows => exact fun r hr x hx => leafQ_ok hl (List.all_eq_true.1 (List.all_eq_true.1 h r hr) x hx)
  | one T cs => exact fun x hx => leafQ_ok hl (List.all_eq_true.1 h x hx)
  | map es => exact fun e he => leafQ_ok hl (List.all_eq_true.1 h e he)
  | _ => trivial
def incrB : List Nat → Bool
  | a :: b :: r => Nat.blt a b && incrB (b :: r)
  | _ => true
theorem incrB_ok : ∀ {l : List Nat}, incrB l = true → l.Pairwise (· < ·)
  | [], _ => .nil
  | [a], _ => List.pairwise_singleton _ _
  | a :: b :: r, h => by
    simp only [incrB, Bool.and_eq_true, Nat.blt_eq] at h
    have ih := incrB_ok h.2
    refine List.Pairwise.cons (fun x hx => ?_) ih
    rcases List.mem_cons.1 hx with rfl | hx
    · exact h.1
    · exact Nat.lt_trans h.1 (List.rel_of_pairwise_cons ih hx)
theorem nodup_incr {l : List Nat} (h : incrB l = true) : l.Nodup := (incrB_ok h).imp fun h => Nat.ne_of_lt h
/-- A state, written out. -/
structure Stt where
  e : List AV
  H : Hp
/-- The state is what has been computed, under new names: the l-th object was σ's l-th. -/
noncomputable def chkS (σ : List Nat) (S : Stt) (p : Br AV × HT) : Bool :=
  incrB σ && (renHB σ (fun l => Option.rec (motive := fun _ => Option VO) none (fun o => some (VT.den o)) (p.2.t.get l)) σ S.H && (S.H.all (objB' S.H.length) && (S.e.all (valB' S.H.length) && renEB σ p.1.get 0 S.e)))
def liveB : VO → Bool
  | .arr .. | .map _ | .one .. => true
  | _ => false
theorem objB_live {m : Nat} {o : VO} (h : objB' m o = true) : o.live = true := by cases o <;> first | rfl | cases h
theorem chkS_ok {σ : List Nat} {S : Stt} {p : Br AV × HT} {N : Nat} (he : p.1.ex N) (hh : p.2.ok) (hN : S.e.length = N) (h : chkS σ S p = true) :
    Renames 0 σ S.H p.2.den ∧ RenE σ S.e (p.1.toL N) ∧ ∀ y ∈ S.e, valN 0 S.H y := by
  simp only [chkS, Bool.and_eq_true] at h
  obtain ⟨h1, h2, h3, h4, h5⟩ := h
  have hl : ∀ l, l < S.H.length → live S.H l := fun l hlt => ⟨_, List.getElem?_eq_getElem hlt, objB_live (List.all_eq_true.1 h3 _ (List.getElem_mem hlt))⟩
  refine ⟨⟨nodup_incr h1, fun l h => by omega, renHB_ok (fun l => ?_) h2, fun o ho => objB_ok hl (List.all_eq_true.1 h3 o ho), Nat.zero_le _⟩, renEB_ok h5 (by rw [hN, he.len]) (fun j => ?_), fun y hy => valB_ok hl (List.all_eq_true.1 h4 y hy)⟩
  · rw [hh.get]
    cases p.2.t.get l <;> rfl
  · rw [Nat.zero_add, he.toL_get]

/-! ### A state that is written out, as trees -/
noncomputable def vtOf : VO → VT
  | .arr T sz [r] => match Nat.beq r.length sz, Nat.ble r.length 40 with
    | true, false => .big T r.length (Br.ofL r)
    | _, _ => .arr T sz 1 (Br.ofL [r])
  | .arr T sz rows => .arr T sz rows.length (Br.ofL rows)
  | .frz sz rows => .frz sz rows.length (Br.ofL rows)
  | .map es => .map es
  | .iter m n s => .iter m n s
  | .one T cs => .one T cs
  | .dead => .dead
theorem vtOf_ok (o : VO) : (vtOf o).ok ∧ (vtOf o).den = o := by
  unfold vtOf
  split
  · rename_i T sz r
    split
    · rename_i hb _
      have hb := Nat.eq_of_beq_eq_true hb
      subst hb
      obtain ⟨a, b⟩ := Br.ofL_ex r
      exact ⟨a, by simp only [VT.den, b]⟩
    · obtain ⟨a, b⟩ := Br.ofL_ex [r]
      exact ⟨a, by have b : (Br.ofL [r]).toL 1 = _ := b; simp only [VT.den, b]⟩
  · rename_i T sz rows hne
    obtain ⟨a, b⟩ := Br.ofL_ex rows
    exact ⟨a, by simp only [VT.den, b]⟩
  · rename_i sz rows
    obtain ⟨a, b⟩ := Br.ofL_ex rows
    exact ⟨a, by simp only [VT.den, b]⟩
  all_goals exact ⟨trivial, rfl⟩
noncomputable def htOf (H : Hp) : HT := ⟨H.length, Br.ofL (H.map vtOf)⟩
theorem htOf_ok (H : Hp) : (htOf H).ok ∧ (htOf H).den = H := by
  obtain ⟨a, b⟩ := Br.ofL_ex (H.map vtOf)
  rw [List.length_map] at a b
  refine ⟨⟨a, fun l o h => ?_⟩, ?_⟩
  · have h : (Br.ofL (H.map vtOf)).get l = some o := h
    rw [← a.toL_get, b, List.getElem?_map] at h
    obtain ⟨z, _, rfl⟩ := Option.map_eq_some_iff.1 h
    exact (vtOf_ok z).1
  · show ((Br.ofL (H.map vtOf)).toL H.length).map VT.den = H
    rw [b, List.map_map]
    refine List.ext_getElem? fun i => ?_
    rw [List.getElem?_map]
    cases H[i]? with
    | none => rfl
    | some o => exact congrArg some (vtOf_ok o).2
noncomputable def envOf (l : List AV) : Br AV := Br.ofL l

/-- Short forms for written states. -/
def bL (l : List Int) : List (List AV) := l.map fun n => [.int .u8 n]
def rp {α : Type} (n : Nat) (x : α) : List α := List.replicate n x

/-! ### A piece -/
noncomputable def nrmF (x : Option (Exit × Br AV × HT)) : Option (Br AV × HT) := match x with
  | some (.normal, e, h) => some (e, h)
  | _ => none
/-- A piece of code from one written state to the next. -/
noncomputable def pieceB (c : Cf) (F : FRec) (x : Code) (S : Stt) (σ : List Nat) (S' : Stt) : Bool :=
  Option.rec (motive := fun _ => Bool) false (fun p => chkS σ S' p) (nrmF (cdF x c F S.e.length (envOf S.e) (htOf S.H)))
theorem piece_ok {c : Cf} {F : FRec} {R' : Rec} (hF : FSim F R') (hR : RecOk c.P c.G R') {x y : Code} {S S' : Stt} {σ : List Nat} {Q : Qv} (hl : S.e.length = S'.e.length) (h : pieceB c F x S σ S' = true)
    (hn : Pc c.P c.G 0 y Q S'.e S'.H) : Pc c.P c.G 0 (.seq x y) Q S.e S.H := by
  unfold pieceB at h
  cases hx : nrmF (cdF x c F S.e.length (envOf S.e) (htOf S.H)) with
  | none => rw [hx] at h; cases h
  | some p =>
    rw [hx] at h
    have h : chkS σ S' p = true := h
    obtain ⟨a1, a2⟩ := Br.ofL_ex S.e
    obtain ⟨b1, b2⟩ := htOf_ok S.H
    unfold nrmF at hx
    split at hx
    case h_2 => cases hx
    rename_i e h' hc
    cases hx
    obtain ⟨d1, d2, d3⟩ := fcode_eq hF x a1 b1 (cdF_eq x hc)
    rw [a2, b2] at d3
    obtain ⟨r1, r2, r3⟩ := chkS_ok d1 d2 hl.symm h
    refine Pc.seq (Pc.of (md := mdA) (ecode_sound hR x _ _ _ _ _ _ d3 ?_))
    exact hn.ren r1 r2 r3
/-- So many parts of a chain, one behind the other. -/
noncomputable def runK (c : Cf) (F : FRec) (N : Nat) : Nat → Code → Br AV × HT → Option (Br AV × HT)
  | 0, _, p => some p
  | k + 1, .seq a b, p => Option.rec (motive := fun _ => Option (Br AV × HT)) none (fun q => runK c F N k b q) (nrmF (cdF a c F N p.1 p.2))
  | _ + 1, _, _ => none
def restK : Nat → Code → Code
  | 0, c => c
  | k + 1, .seq _ b => restK k b
  | _ + 1, c => c
theorem runK_ok {c : Cf} {F : FRec} {R' : Rec} (hF : FSim F R') (hR : RecOk c.P c.G R') {N : Nat} : ∀ (k : Nat) (x : Code) {p p' : Br AV × HT}, p.1.ex N → p.2.ok → runK c F N k x p = some p' →
    p'.1.ex N ∧ p'.2.ok ∧ ∀ Q : Qv, Pc c.P c.G 0 (restK k x) Q (p'.1.toL N) p'.2.den → Pc c.P c.G 0 x Q (p.1.toL N) p.2.den
  | 0, x, p, p', he, hh, hv => by cases hv; exact ⟨he, hh, fun Q h => h⟩
  | k + 1, .seq a b, p, p', he, hh, hv => by
    have hv : Option.rec (motive := fun _ => Option (Br AV × HT)) none (fun q => runK c F N k b q) (nrmF (cdF a c F N p.1 p.2)) = some p' := hv
    cases hx : nrmF (cdF a c F N p.1 p.2) with
    | none => rw [hx] at hv; cases hv
    | some q =>
      rw [hx] at hv
      have hv : runK c F N k b q = some p' := hv
      unfold nrmF at hx
      split at hx
      case h_2 => cases hx
      rename_i e h' hc
      cases hx
      obtain ⟨d1, d2, d3⟩ := fcode_eq hF a he hh (cdF_eq a hc)
      obtain ⟨r1, r2, r3⟩ := runK_ok hF hR k b d1 d2 hv
      exact ⟨r1, r2, fun Q h => Pc.seq (Pc.of (md := mdA) (ecode_sound hR a _ _ _ _ _ _ d3 (r3 Q h)))⟩
  | k + 1, .skip, p, p', he, hh, hv => by cases hv
  | k + 1, .label _, p, p', he, hh, hv => by cases hv
  | k + 1, .exit _, p, p', he, hh, hv => by cases hv
  | k + 1, .ret, p, p', he, hh, hv => by cases hv
  | k + 1, .region .., p, p', he, hh, hv => by cases hv
  | k + 1, .cond .., p, p', he, hh, hv => by cases hv
  | k + 1, .block .., p, p', he, hh, hv => by cases hv
  | k + 1, .loop _, p, p', he, hh, hv => by cases hv
  | k + 1, .rangeFunc .., p, p', he, hh, hv => by cases hv
  | k + 1, .scope .., p, p', he, hh, hv => by cases hv
  | k + 1, .goto .., p, p', he, hh, hv => by cases hv
  | k + 1, .refuse .., p, p', he, hh, hv => by cases hv
noncomputable def pieceK (c : Cf) (F : FRec) (k : Nat) (x : Code) (S : Stt) (σ : List Nat) (S' : Stt) : Bool :=
  Option.rec (motive := fun _ => Bool) false (fun p => chkS σ S' p) (runK c F S.e.length k x (envOf S.e, htOf S.H))
theorem pieceK_ok {c : Cf} {F : FRec} {R' : Rec} (hF : FSim F R') (hR : RecOk c.P c.G R') {k : Nat} {x : Code} {S S' : Stt} {σ : List Nat} {Q : Qv} (hl : S.e.length = S'.e.length) (h : pieceK c F k x S σ S' = true)
    (hn : Pc c.P c.G 0 (restK k x) Q S'.e S'.H) : Pc c.P c.G 0 x Q S.e S.H := by
  unfold pieceK at h
  cases hx : runK c F S.e.length k x (envOf S.e, htOf S.H) with
  | none => rw [hx] at h; cases h
  | some p =>
    rw [hx] at h
    have h : chkS σ S' p = true := h
    obtain ⟨a1, a2⟩ := Br.ofL_ex S.e
    obtain ⟨b1, b2⟩ := htOf_ok S.H
    obtain ⟨d1, d2, d3⟩ := runK_ok hF hR k x (p := (envOf S.e, htOf S.H)) a1 b1 hx
    have d3 := d3 Q
    have e1 : (envOf S.e, htOf S.H).1.toL S.e.length = S.e := a2
    have e2 : (envOf S.e, htOf S.H).2.den = S.H := b2
    rw [e1, e2] at d3
    obtain ⟨r1, r2, r3⟩ := chkS_ok d1 d2 hl.symm h
    exact d3 (hn.ren r1 r2 r3)
/-- The last piece: what comes back. -/
noncomputable def lastB (c : Cf) (F : FRec) (fn : Func) (x : Code) (S : Stt) : Option AV :=
  Option.rec (motive := fun _ => Option AV) none (fun p => some p.1) (ffin c.P fn (cdF x c F S.e.length (envOf S.e) (htOf S.H)))
theorem last_ok {c : Cf} {F : FRec} {R' : Rec} (hF : FSim F R') (hR : RecOk c.P c.G R') {fn : Func} {x : Code} {S : Stt} {r : AV} (h : lastB c F fn x S = some r) : Pc c.P c.G 0 x (fnQ c.P fn fun v _ => v = r) S.e S.H := by
  unfold lastB at h
  cases hx : cdF x c F S.e.length (envOf S.e) (htOf S.H) with
  | none => rw [hx] at h; cases h
  | some p =>
    obtain ⟨ex, e, h'⟩ := p
    rw [hx] at h
    obtain ⟨a1, a2⟩ := Br.ofL_ex S.e
    obtain ⟨b1, b2⟩ := htOf_ok S.H
    obtain ⟨d1, d2, d3⟩ := fcode_eq hF x a1 b1 (cdF_eq x hx)
    rw [a2, b2] at d3
    cases hf : ffin c.P fn (some (ex, e, h')) with
    | none => rw [hf] at h; cases h
    | some q =>
      obtain ⟨v, h2⟩ := q
      rw [hf] at h
      cases h
      obtain ⟨_, d5⟩ := ffin_eq d1 d2 hf
      simp only [efin] at d5
      refine Pc.of (md := mdA) (ecode_sound hR x _ _ _ _ _ _ d3 ?_)
      cases ex <;> first
        | (cases d5; done)
        | (obtain ⟨z, z1, z2⟩ := map_some d5
           simp only [fnQ, z1]
           exact (Prod.mk.inj z2).1)
end Go.Vi
