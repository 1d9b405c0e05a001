/- Vi, part Gc: pieces in conditions, blocks and loops; pieces of a call over objects that stay; calls that are known at one state. -/
import Derived.Test.YtodhknjjjhmpfaaGreatViGb
set_option autoImplicit false
set_option linter.unusedVariables false
set_option linter.unusedSimpArgs false
set_option maxRecDepth 100000
namespace Go.Vi
open Go
section
variable {P : Program} {G : Glob} {nb : Nat} {Q : Qv} {env env2 : List AV} {H H2 : Hp} {x y : Code}
theorem Pc.cond {o : Operand} {t : Bool} (h : ev G env o = some (.bool t)) (hA : t = true → Pc P G nb x Q env H) (hB : t = false → Pc P G nb y Q env H) : Pc P G nb (.cond o x y) Q env H := fun c a s hn hg he hd => by
  have hr := ev_sound he hg o _ h
  have hv : a.eval o = .bool t := by
    generalize a.eval o = V at hr
    cases hr
    rfl
  refine wp_cond hv ?_
  cases t with
  | true => exact hA rfl c a s hn hg he hd
  | false => exact hB rfl c a s hn hg he hd
theorem Pc.block {id : Nat} (h : Pc P G nb x (blockQ id Q) env H) : Pc P G nb (.block id x) Q env H := fun c a s hn hg he hd => by
  refine wp_block (wp_mono (h c a s hn hg he hd) fun e a' w' hp => ?_)
  cases e with
  | exit id' =>
    obtain ⟨env', H', c', h1, t, h3, h4, h5⟩ := hp
    simp only [Exit.inBlock, blockQ] at h5 ⊢
    split at h5
    · rename_i hid; rw [if_pos hid]; exact ⟨env', H', c', h1, t, h3, h4, h5⟩
    · rename_i hid; rw [if_neg hid]; exact ⟨env', H', c', h1, t, h3, h4, h5⟩
  | _ => exact hp
/-- A loop's round begins. -/
def PcL (P : Program) (G : Glob) (nb : Nat) (x : Code) (Q : Qv) (env : List AV) (H : Hp) : Prop :=
  ∀ (c : Cx) (a : Act), Sim c H → nb ≤ H.length → GOK c G → EnvR c env a.tmps → a.defers = [] → ∀ (b : Frame) (k : List Item) (cs : List Frame),
    ∃ e a' w', Post nb c H Q e a' w' ∧ Arrives P (lone (b.at a (.code x :: .inLoop x :: k)) cs c.w) b k cs e a' w'
theorem PcL.round (h : Pc P G nb x (thenQ (fun env H => PcL P G nb x Q env H) Q) env H) : PcL P G nb x Q env H := fun c a s hn hg he hd b k cs => by
  obtain ⟨e, a1, w1, hq, harr⟩ := h c a s hn hg he hd b (.inLoop x :: k) cs
  cases e with
  | normal =>
    obtain ⟨env', H', c', rfl, t, h3, h4, h5⟩ := hq
    obtain ⟨e2, a2, w2, hq2, harr2⟩ := h5 c' a1 t.sim t.len (hg.fo t) h3 h4 b k cs
    exact ⟨e2, a2, w2, hq2.transF t, .of_steps (Steps.trans harr (.one step_inLoop)) harr2⟩
  | exit id => exact ⟨_, a1, w1, hq, .pass (x := .inLoop x) rfl (fun _ _ => .inl (by simp)) harr⟩
  | goto l => exact ⟨_, a1, w1, hq, .pass (x := .inLoop x) rfl (fun _ _ => .inl (by simp)) harr⟩
  | ret => exact ⟨_, a1, w1, hq, .pass (x := .inLoop x) rfl (fun _ _ => .inl (by simp)) harr⟩
  | panic ch => exact ⟨_, a1, w1, hq, .pass (x := .inLoop x) rfl (fun _ _ => .inl (by simp)) harr⟩
  | outgrown => exact ⟨_, a1, w1, hq, .pass (x := .inLoop x) rfl (fun _ _ => .inl (by simp)) harr⟩
theorem PcL.ren {σ : List Nat} (r : Renames nb σ H H2) (hE : RenE σ env env2) (hN : ∀ y ∈ env, valN nb H y) (h : PcL P G nb x Q env H) : PcL P G nb x Q env2 H2 := fun c a s hn hg he hd b k cs => by
  obtain ⟨e2, a2, w2, hq2, harr2⟩ := h (renCx nb σ H c) a (r.sim s) r.len hg.ren (he.ren hE hN) hd b k cs
  exact ⟨e2, a2, w2, hq2.transF (Fo.ren r s), harr2⟩
theorem Pc.loop (h : PcL P G nb x Q env H) : Pc P G nb (.loop x) Q env H := fun c a s hn hg he hd b k cs => by
  obtain ⟨e, a', w', hq, harr⟩ := h c a s hn hg he hd b k cs
  exact ⟨e, a', w', hq, .of_steps (.one step_loop) harr⟩
theorem Pc.ret (h : Q .ret env H) : Pc P G nb .ret Q env H := Pc.of (md := mdA) h
end

/-! ### States over objects that stay: the first nb keep their names -/
def lowB (nb : Nat) : Nat → List Nat → Bool
  | i, l :: r => match Nat.blt i nb with
    | true => Nat.beq l i && lowB nb (Nat.succ i) r
    | false => true
  | i, [] => Nat.ble nb i
theorem lowB_ok {nb : Nat} : ∀ {i : Nat} {σ : List Nat}, lowB nb i σ = true → ∀ l, i + l < nb → σ[l]? = some (i + l)
  | i, [], h, l, hl => by
    have : nb ≤ i := Nat.le_of_ble_eq_true h
    omega
  | i, a :: r, h, l, hl => by
    simp only [lowB] at h
    have hi : Nat.blt i nb = true := by rw [Nat.blt_eq]; omega
    rw [hi] at h
    simp only [Bool.and_eq_true] at h
    obtain ⟨h1, h2⟩ := h
    have h1 := Nat.eq_of_beq_eq_true h1
    cases l with
    | zero => simp [h1]
    | succ l =>
      have := lowB_ok h2 l (by omega)
      rw [List.getElem?_cons_succ, this]
      congr 1
      omega
def isDead : VO → Bool
  | .dead => true
  | _ => false
noncomputable def renHN (σ : List Nat) (g : Nat → Option VO) : List Nat → Hp → Bool
  | [], [] => true
  | l :: s, o :: r => (match isDead o with
    | true => true
    | false => match g l with
      | some o' => renOB σ o o'
      | none => false) && renHN σ g s r
  | _, _ => false
theorem renHN_ok {σ : List Nat} {H2 : Hp} {g : Nat → Option VO} (hg : ∀ l, g l = H2[l]?) : ∀ {s : List Nat} {H : Hp}, renHN σ g s H = true → RenH σ H2 s H
  | [], [], _ => trivial
  | l :: s, o :: r, h => by
    simp only [renHN, Bool.and_eq_true] at h
    refine ⟨?_, renHN_ok hg h.2⟩
    have h1 := h.1
    split at h1
    · rename_i hd
      left
      cases o <;> first | rfl | cases hd
    · split at h1
      · rename_i o' ho'
        unfold renOB at h1
        split at h1
        · rename_i z hz
          obtain rfl := sameO_eq h1
          exact .inr ⟨_, (hg l).symm.trans ho', hz⟩
        · cases h1
      · cases h1
  | [], _ :: _, h => by cases h
  | _ :: _, [], h => by cases h
/-- Objects behind the first nb live; those before may be dead. -/
def objsB (nb m : Nat) : Nat → Hp → Bool
  | _, [] => true
  | i, o :: r => (objB' m o || (Nat.blt i nb && isDead o)) && objsB nb m (Nat.succ i) r
theorem objsB_ok {nb m : Nat} : ∀ {i : Nat} {H : Hp}, objsB nb m i H = true → ∀ j o, H[j]? = some o → objB' m o = true ∨ (i + j < nb ∧ o = .dead)
  | i, [], h, j, o, hj => by cases hj
  | i, a :: r, h, j, o, hj => by
    simp only [objsB, Bool.and_eq_true, Bool.or_eq_true] at h
    cases j with
    | zero =>
      simp at hj
      subst hj
      rcases h.1 with h1 | ⟨h1, h2⟩
      · exact .inl h1
      · refine .inr ⟨blt_lt h1, ?_⟩
        cases a <;> first | rfl | cases h2
    | succ j =>
      have := objsB_ok h.2 j o (by simpa using hj)
      rcases this with h1 | ⟨h1, h2⟩
      · exact .inl h1
      · exact .inr ⟨by omega, h2⟩
noncomputable def chkN (nb : Nat) (σ : List Nat) (S : Stt) (p : Br AV × HT) : Bool :=
  (incrB σ && (lowB nb 0 σ && Nat.ble nb S.H.length)) && (renHN σ (fun l => Option.rec (motive := fun _ => Option VO) none (fun o => some (VT.den o)) (p.2.t.get l)) σ S.H && (objsB nb S.H.length 0 S.H && (S.e.all (valB' S.H.length) && renEB σ p.1.get 0 S.e)))
theorem leafN_ok {nb : Nat} {H : Hp} (hl : ∀ l, l < H.length → l < nb ∨ live H l) {x : AV} (h : leafQ H.length x = true) : leafN nb H x := by
  cases x with
  | ptr l i k => exact hl _ (blt_lt h)
  | row t l i n => exact hl _ (blt_lt h)
  | sub l i k e n => exact hl _ (blt_lt h)
  | mapr l => exact hl _ (blt_lt h)
  | _ => trivial
theorem valN_ok {nb : Nat} {H : Hp} (hl : ∀ l, l < H.length → l < nb ∨ live H l) {x : AV} (h : valB' H.length x = true) : valN nb H x := by
  cases x with
  | agg cs => exact fun y hy => leafN_ok hl (List.all_eq_true.1 h y hy)
  | clo f cs => exact fun y hy => leafN_ok hl (List.all_eq_true.1 h y hy)
  | ptr l i k => exact leafN_ok (x := .ptr l i k) hl h
  | row t l i n => exact leafN_ok (x := .row t l i n) hl h
  | sub l i k e n => exact leafN_ok (x := .sub l i k e n) hl h
  | mapr l => exact leafN_ok (x := .mapr l) hl h
  | _ => trivial
theorem objN_ok {nb : Nat} {H : Hp} (hl : ∀ l, l < H.length → l < nb ∨ live H l) {o : VO} (h : objB' H.length o = true) : objN nb H o := by
  cases o with
  | arr T sz rows => exact fun r hr x hx => leafN_ok hl (List.all_eq_true.1 (List.all_eq_true.1 h r hr) x hx)
  | one T cs => exact fun x hx => leafN_ok hl (List.all_eq_true.1 h x hx)
  | map es => exact fun e he => leafN_ok hl (List.all_eq_true.1 h e he)
  | _ => trivial
theorem chkN_ok {nb : Nat} {σ : List Nat} {S : Stt} {p : Br AV × HT} {N : Nat} (he : p.1.ex N) (hh : p.2.ok) (hN : S.e.length = N) (h : chkN nb σ S p = true) :
    Renames nb σ S.H p.2.den ∧ RenE σ S.e (p.1.toL N) ∧ ∀ y ∈ S.e, valN nb S.H y := by
  simp only [chkN, Bool.and_eq_true] at h
  obtain ⟨⟨h1, hlow, hlen⟩, h2, h3, h4, h5⟩ := h
  have ho := objsB_ok h3
  have hl : ∀ l, l < S.H.length → l < nb ∨ live S.H l := fun l hlt => by
    rcases ho l _ (List.getElem?_eq_getElem hlt) with h | ⟨h, _⟩
    · exact .inr ⟨_, List.getElem?_eq_getElem hlt, objB_live h⟩
    · exact .inl (by omega)
  refine ⟨⟨nodup_incr h1, fun l h => by have := lowB_ok hlow l (by omega); rwa [Nat.zero_add] at this, renHN_ok (fun l => ?_) h2, fun o hm => ?_, Nat.le_of_ble_eq_true hlen⟩, renEB_ok h5 (by rw [hN, he.len]) (fun j => ?_), fun y hy => valN_ok hl (List.all_eq_true.1 h4 y hy)⟩
  · rw [hh.get]
    cases p.2.t.get l <;> rfl
  · obtain ⟨j, hj⟩ := List.mem_iff_getElem?.1 hm
    rcases ho j o hj with h | ⟨_, rfl⟩
    · exact objN_ok hl h
    · trivial
  · rw [Nat.zero_add, he.toL_get]
theorem runK_okN {c : Cf} {F : FRec} {R' : Rec} (hF : FSim F R') (hR : RecOk c.P c.G R') {nb N : Nat} : ∀ (k : Nat) (x : Code) {p p' : Br AV × HT}, p.1.ex N → p.2.ok → runK c F N k x p = some p' →
    p'.1.ex N ∧ p'.2.ok ∧ ∀ Q : Qv, Pc c.P c.G nb (restK k x) Q (p'.1.toL N) p'.2.den → Pc c.P c.G nb x Q (p.1.toL N) p.2.den
  | 0, x, p, p', he, hh, hv => by cases hv; exact ⟨he, hh, fun Q h => h⟩
  | k + 1, .seq a b, p, p', he, hh, hv => by
    have hv : Option.rec (motive := fun _ => Option (Br AV × HT)) none (fun q => runK c F N k b q) (nrmF (cdF a c F N p.1 p.2)) = some p' := hv
    cases hx : nrmF (cdF a c F N p.1 p.2) with
    | none => rw [hx] at hv; cases hv
    | some q =>
      rw [hx] at hv
      have hv : runK c F N k b q = some p' := hv
      unfold nrmF at hx
      split at hx
      case h_2 => cases hx
      rename_i e h' hc
      cases hx
      obtain ⟨d1, d2, d3⟩ := fcode_eq hF a he hh (cdF_eq a hc)
      obtain ⟨r1, r2, r3⟩ := runK_okN hF hR k b d1 d2 hv
      exact ⟨r1, r2, fun Q h => Pc.seq (Pc.of (md := mdA) (ecode_sound hR a _ _ _ _ _ _ d3 (r3 Q h)))⟩
  | k + 1, .skip, p, p', he, hh, hv => by cases hv
  | k + 1, .label _, p, p', he, hh, hv => by cases hv
  | k + 1, .exit _, p, p', he, hh, hv => by cases hv
  | k + 1, .ret, p, p', he, hh, hv => by cases hv
  | k + 1, .region .., p, p', he, hh, hv => by cases hv
  | k + 1, .cond .., p, p', he, hh, hv => by cases hv
  | k + 1, .block .., p, p', he, hh, hv => by cases hv
  | k + 1, .loop _, p, p', he, hh, hv => by cases hv
  | k + 1, .rangeFunc .., p, p', he, hh, hv => by cases hv
  | k + 1, .scope .., p, p', he, hh, hv => by cases hv
  | k + 1, .goto .., p, p', he, hh, hv => by cases hv
  | k + 1, .refuse .., p, p', he, hh, hv => by cases hv
noncomputable def pieceN (c : Cf) (F : FRec) (nb k : Nat) (x : Code) (S : Stt) (σ : List Nat) (S' : Stt) : Bool :=
  Option.rec (motive := fun _ => Bool) false (fun p => chkN nb σ S' p) (runK c F S.e.length k x (envOf S.e, htOf S.H))
theorem pieceN_ok {c : Cf} {F : FRec} {R' : Rec} (hF : FSim F R') (hR : RecOk c.P c.G R') {nb k : Nat} {x : Code} {S S' : Stt} {σ : List Nat} {Q : Qv} (hl : S.e.length = S'.e.length) (h : pieceN c F nb k x S σ S' = true)
    (hn : Pc c.P c.G nb (restK k x) Q S'.e S'.H) : Pc c.P c.G nb x Q S.e S.H := by
  unfold pieceN at h
  cases hx : runK c F S.e.length k x (envOf S.e, htOf S.H) with
  | none => rw [hx] at h; cases h
  | some p =>
    rw [hx] at h
    have h : chkN nb σ S' p = true := h
    obtain ⟨a1, a2⟩ := Br.ofL_ex S.e
    obtain ⟨b1, b2⟩ := htOf_ok S.H
    obtain ⟨d1, d2, d3⟩ := runK_okN hF hR (nb := nb) k x (p := (envOf S.e, htOf S.H)) a1 b1 hx
    have d3 := d3 Q
    have e1 : (envOf S.e, htOf S.H).1.toL S.e.length = S.e := a2
    have e2 : (envOf S.e, htOf S.H).2.den = S.H := b2
    rw [e1, e2] at d3
    obtain ⟨r1, r2, r3⟩ := chkN_ok d1 d2 hl.symm h
    exact d3 (hn.ren r1 r2 r3)

/-! ### A call known at one state -/
def sameHpB : Hp → Hp → Bool
  | [], [] => true
  | o :: r, p :: s => (sameO o p || (isDead o && isDead p)) && sameHpB r s
  | _, _ => false
theorem sameHpB_eq : ∀ {a b : Hp}, sameHpB a b = true → a = b
  | [], [], _ => rfl
  | [], _ :: _, h => by cases h
  | _ :: _, [], h => by cases h
  | o :: r, p :: s, h => by
    simp only [sameHpB, Bool.and_eq_true, Bool.or_eq_true] at h
    rw [sameHpB_eq h.2]
    rcases h.1 with h1 | ⟨h1, h2⟩
    · rw [sameO_eq h1]
    · cases o <;> first | (cases h1; done) | (cases p <;> first | rfl | (cases h2; done))
/-- Whether a call comes with these arguments over these objects. -/
noncomputable def memoB (xs0 : List AV) (H0 : Hp) (xs : List AV) (H : Hp) : Bool := sameL xs xs0 && sameHpB H H0
noncomputable def memoT (xs0 : List AV) (H0 : Hp) (r : AV) (H1 : Hp) (xs : List AV) (h : HT) : Option (AV × HT) := match memoB xs0 H0 xs h.den with
  | true => some (r, htOf H1)
  | false => none
noncomputable def memoK (xs0 : List AV) (H0 : Hp) (r : AV) (H1 : Hp) (xs : List AV) (H : Hp) : Option (AV × Hp) := match memoB xs0 H0 xs H with
  | true => some (r, H1)
  | false => none
theorem memo_sim {xs0 : List AV} {H0 : Hp} {r0 : AV} {H1 : Hp} : ∀ xs h r h', h.ok → memoT xs0 H0 r0 H1 xs h = some (r, h') → h'.ok ∧ memoK xs0 H0 r0 H1 xs h.den = some (r, h'.den) := fun xs h r h' k hv => by
  unfold memoT at hv
  unfold memoK
  split at hv
  · cases hv
    obtain ⟨a, b⟩ := htOf_ok H1
    exact ⟨a, by rw [b]⟩
  · cases hv
theorem memo_ok {P : Program} {G : Glob} {f : Nat} {xs0 : List AV} {H0 : Hp} {r0 : AV} {H1 : Hp} (h : XS P G f xs0 H0 fun r H => r = r0 ∧ H = H1) (xs : List AV) (H : Hp) (r : AV) (H' : Hp) (hv : memoK xs0 H0 r0 H1 xs H = some (r, H')) :
    XS P G f xs H fun r1 H2 => r1 = r ∧ H2 = H' := by
  unfold memoK at hv
  split at hv
  · rename_i hm
    cases hv
    simp only [memoB, Bool.and_eq_true] at hm
    rw [sameL_eq hm.1, sameHpB_eq hm.2]
    exact h
  · cases hv
end Go.Vi
