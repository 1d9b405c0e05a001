/- Vi, part G: cuts of slices, new slices, literals. -/
import Derived.Test.YtecjobmgphdjoaaGreatViF
set_option autoImplicit false
set_option linter.unusedVariables false
set_option linter.unusedSimpArgs false
namespace Go.Vi

def RelO (c : Cx) : Option AV → Option Value → Prop
  | none, none => True
  | some x, some X => Rel c x X
  | _, _ => False

def bnd (x : Option AV) (d : Nat) : Option Nat :=
  match x with
  | none => some d
  | some (.int _ n) => if 0 ≤ n then some n.toNat else none
  | _ => none

/-- Bounds of a cut: from, to, and the capacity's end if it is told. -/
def vbounds (len : Nat) (lo hi mx : Option AV) : Option (Nat × Nat × Option Nat) :=
  match bnd lo 0, bnd hi len, bnd mx len with
  | some l, some h, some m => if l ≤ h ∧ h ≤ m ∧ m ≤ len ∧ (mx.isSome = true → hi.isSome = true) then some (l, h, if mx.isSome then some m else none) else none
  | _, _, _ => none

theorem bnd_sound {P : Program} {c : Cx} {x : Option AV} {X : Option Value} (hX : RelO c x X) {d n : Nat} (h : bnd x d = some n) :
    (X = none ∧ n = d) ∨ ∃ V, X = some V ∧ ∀ (y : Nat) (code : BoundsCode) (w : World), n ≤ y → (Instr.sliceBound V y code).run P w = .ok n w := by
  unfold bnd at h
  split at h
  · cases h
    cases X with
    | none => exact .inl ⟨rfl, rfl⟩
    | some V => exact hX.elim
  · rename_i k q
    split at h
    · rename_i h0
      cases h
      cases X with
      | none => exact hX.elim
      | some V =>
        cases hX
        refine .inr ⟨_, rfl, fun y code w hy => ?_⟩
        have : q ≤ (y : Int) := by omega
        simp [Instr.sliceBound, asIntOf, h0, this]
    · cases h
  · cases h

theorem bounds_sound {P : Program} {c : Cx} {lo hi mx : Option AV} {LO HI MX : Option Value} (h1 : RelO c lo LO) (h2 : RelO c hi HI) (h3 : RelO c mx MX) {len l h : Nat} {mo : Option Nat}
    (hb : vbounds len lo hi mx = some (l, h, mo)) : l ≤ h ∧ h ≤ len ∧ (∀ m, mo = some m → h ≤ m ∧ m ≤ len) ∧ (MX = none → mo = none) ∧
      ∀ (b : Bool) (cap : Nat) (w : World), len ≤ cap → (Instr.sliceBounds b len cap LO HI MX).run P w = .ok (l, h, mo.getD cap) w := by
  unfold vbounds at hb
  split at hb
  · rename_i l' h' m' e1 e2 e3
    split at hb
    · rename_i hc
      obtain ⟨c1, c2, c3, c4⟩ := hc
      cases hb
      refine ⟨c1, by omega, fun m hm => ?_, fun e => ?_, fun b cap w hcap => ?_⟩
      · split at hm
        · cases hm; exact ⟨c2, c3⟩
        · cases hm
      · subst e
        cases mx with
        | none => rfl
        | some x => exact h3.elim
      · have r1 := bnd_sound (P := P) h1 e1
        have r2 := bnd_sound (P := P) h2 e2
        have r3 := bnd_sound (P := P) h3 e3
        unfold Instr.sliceBounds
        have hmx : MX.isSome = mx.isSome := by
          cases mx <;> cases MX <;> first | rfl | exact h3.elim
        have hhi : HI.isSome = hi.isSome := by
          cases hi <;> cases HI <;> first | rfl | exact h2.elim
        rcases r3 with ⟨rfl, e⟩ | ⟨M, rfl, rm⟩
        · rw [← hmx]
          rcases r2 with ⟨rfl, e'⟩ | ⟨Hh, rfl, rh⟩
          · rcases r1 with ⟨rfl, e''⟩ | ⟨L, rfl, rl⟩
            · simp; omega
            · simp [rl _ _ _ (show l ≤ len by omega)]; omega
          · rcases r1 with ⟨rfl, e''⟩ | ⟨L, rfl, rl⟩
            · simp [rh _ _ _ (show h ≤ cap by omega)]; omega
            · simp [rh _ _ _ (show h ≤ cap by omega), rl _ _ _ c1]
        · rw [← hmx]
          have hs := c4 (by rw [← hmx]; rfl)
          rw [← hhi] at hs
          rcases r2 with ⟨rfl, e'⟩ | ⟨Hh, rfl, rh⟩
          · cases hs
          · rcases r1 with ⟨rfl, e''⟩ | ⟨L, rfl, rl⟩
            · simp [rm _ _ _ (show m' ≤ cap by omega), rh _ _ _ c2]; omega
            · simp [rm _ _ _ (show m' ≤ cap by omega), rh _ _ _ c2, rl _ _ _ c1]
    · cases hb
  · cases hb

theorem bounds_sound2 {P : Program} {c : Cx} {lo hi mx : Option AV} {LO HI MX : Option Value} (h1 : RelO c lo LO) (h2 : RelO c hi HI) (h3 : RelO c mx MX) {len l h : Nat} {mo : Option Nat}
    (hb : vbounds len lo hi mx = some (l, h, mo)) (hhs : hi.isSome = true) : l ≤ h ∧ h ≤ len ∧ (∀ m, mo = some m → h ≤ m ∧ m ≤ len) ∧ (MX = none → mo = none) ∧
      ∀ (b : Bool) (n cap : Nat) (w : World), len ≤ cap → (Instr.sliceBounds b n cap LO HI MX).run P w = .ok (l, h, mo.getD cap) w := by
  unfold vbounds at hb
  split at hb
  · rename_i l' h' m' e1 e2 e3
    split at hb
    · rename_i hc
      obtain ⟨c1, c2, c3, c4⟩ := hc
      cases hb
      refine ⟨c1, by omega, fun m hm => ?_, fun e => ?_, fun b n cap w hcap => ?_⟩
      · split at hm
        · cases hm; exact ⟨c2, c3⟩
        · cases hm
      · subst e
        cases mx with
        | none => rfl
        | some x => exact h3.elim
      · have r1 := bnd_sound (P := P) h1 e1
        have r2 := bnd_sound (P := P) h2 e2
        have r3 := bnd_sound (P := P) h3 e3
        unfold Instr.sliceBounds
        have hmx : MX.isSome = mx.isSome := by
          cases mx <;> cases MX <;> first | rfl | exact h3.elim
        have hhi : HI.isSome = hi.isSome := by
          cases hi <;> cases HI <;> first | rfl | exact h2.elim
        rcases r3 with ⟨rfl, e⟩ | ⟨M, rfl, rm⟩
        · rw [← hmx]
          rcases r2 with ⟨rfl, e'⟩ | ⟨Hh, rfl, rh⟩
          · rw [← hhi] at hhs; cases hhs
          · rcases r1 with ⟨rfl, e''⟩ | ⟨L, rfl, rl⟩
            · simp [rh _ _ _ (show h ≤ cap by omega)]; omega
            · simp [rh _ _ _ (show h ≤ cap by omega), rl _ _ _ c1]
        · rw [← hmx]
          have hs := c4 (by rw [← hmx]; rfl)
          rw [← hhi] at hs
          rcases r2 with ⟨rfl, e'⟩ | ⟨Hh, rfl, rh⟩
          · cases hs
          · rcases r1 with ⟨rfl, e''⟩ | ⟨L, rfl, rl⟩
            · simp [rm _ _ _ (show m' ≤ cap by omega), rh _ _ _ c2]; omega
            · simp [rm _ _ _ (show m' ≤ cap by omega), rh _ _ _ c2, rl _ _ _ c1]
    · cases hb
  · cases hb

def cutTag (tg : Tg) (len l h : Nat) (mo : Option Nat) : Tg :=
  if tg = .bor then (if mo = some h ∧ l = h then .tight else .bor)
  else match mo with
    | some m => if m = h then .tight else .loose
    | none => if tg = .tight ∧ h = len then .tight else .loose

def cutT (t : Bool) (len h : Nat) (mo : Option Nat) : Bool :=
  match mo with
  | some m => m == h
  | none => t && h == len

/-- A part of a row: its room ends where the block does; an empty part at the end of what is known is just empty. -/
def cutRow (t : Bool) (n R l0 i l h : Nat) (mo : Option Nat) : AV :=
  match mo with
  | some m => if m = l then .list .tight [] else if t = true ∧ m = n then .row (h == m) l0 (i + l) (h - l) else .undef
  | none => if l < R then .row (t && h == n) l0 (i + l) (h - l) else .list (if t = true then .tight else .loose) []
/-- How far a row's room is known to reach. -/
def rowR (hi : Option AV) (sz n i : Nat) (rows : List (List AV)) : Nat := if hi.isSome = true ∧ sz ≠ 0 then max n (rows.length - i) else n

def vslice (P : Program) (H : Hp) (t : TypeId) (x : AV) (lo hi mx : Option AV) : Option AV :=
  match P.underlying t with
  | some .string => match x, mx with
    | .str s, none => match vbounds s.size lo hi none with
      | some (l, h, _) => some (.str (s.extract l h))
      | none => none
    | _, _ => none
  | some (.slice e) => match szOf P e with
    | none => none
    | some sz => match x with
      | .nils => match vbounds 0 lo hi mx with
        | some _ => some .nils
        | none => none
      | .list tg rows => match vbounds rows.length lo hi mx with
        | some (l, h, mo) => if lenOk sz rows then some (.list (cutTag tg rows.length l h mo) ((rows.drop l).take (h - l))) else none
        | none => none
      | .row tt l0 i n => match H[l0]? with
        | some (.arr _ sz' rows) => match vbounds (rowR hi sz n i rows) lo hi mx with
          | some (l, h, mo) => if sz' = sz then some (cutRow tt n (max n (rowR hi sz n i rows)) l0 i l h mo) else none
          | none => none
        | some (.frz sz' _) => match vbounds n lo hi mx with
          | some (l, h, mo) => if sz' = sz then some (cutRow tt n n l0 i l h mo) else none
          | none => none
        | _ => none
      | .sub l0 i k es n => match vbounds n lo hi mx with
        | some (l, h, _) => if es = sz then some (.sub l0 i (k + l * es) es (h - l)) else none
        | none => none
      | _ => none
  | some (.array n e) => match szOf P e, x with
    | some sz, .ptr l0 i k => match vbounds n lo hi mx with
      | some (l, h, _) => some (.sub l0 i (k + l * sz) sz (h - l))
      | none => none
    | _, _ => none
  | _ => none

theorem slice_sound {P : Program} {c : Cx} {H : Hp} (s : Sim c H) {t : TypeId} {x v : AV} {X : Value} {lo hi mx : Option AV} {LO HI MX : Option Value} (hX : Rel c x X)
    (h1 : RelO c lo LO) (h2 : RelO c hi HI) (h3 : RelO c mx MX) (h : vslice P H t x lo hi mx = some v) : ∃ V, (Instr.sliceAt t X LO HI MX).run P c.w = .ok V c.w ∧ Rel c v V := by
  unfold vslice at h
  split at h
  · rename_i hu
    split at h
    · rename_i sb
      split at h
      · rename_i l hh mo hb
        cases h
        cases hX
        have hM : MX = none := by cases MX with | none => rfl | some V => exact h3.elim
        subst hM
        obtain ⟨b1, b2, b3, b4, run⟩ := bounds_sound (P := P) h1 h2 h3 hb
        refine ⟨_, ?_, .str _⟩
        simp [Instr.sliceAt, Instr.slice, run_un hu, run false sb.size c.w (Nat.le_refl _)]
      · cases h
    · cases h
  · rename_i e hu
    split at h
    · cases h
    · rename_i sz hsz
      split at h
      · split at h
        · rename_i b hb
          obtain ⟨l, hh, mo⟩ := b
          cases h
          cases hX
          obtain ⟨b1, b2, b3, b4, run⟩ := bounds_sound (P := P) h1 h2 h3 hb
          refine ⟨.slice none 0 0, ?_, .nils⟩
          have hm : mo.getD 0 = 0 := by
            cases mo with
            | none => rfl
            | some m => have := b3 m rfl; simp; omega
          simp [Instr.sliceAt, Instr.slice, run_un hu, run true 0 c.w (Nat.le_refl _), run_sz hsz, hm]
          omega
        · cases h
      · rename_i tg rows
        split at h
        · rename_i l hh mo hb
          split at h
          · rename_i hlo
            cases h
            have hX' := hX
            cases hX with
            | list _ _ b o sz' cap sp hsp F hb' hc ht hs hv g1 g2 =>
              obtain ⟨b1, b2, b3, b4, run⟩ := bounds_sound (P := P) h1 h2 h3 hb
              have hcap : hh ≤ mo.getD cap ∧ mo.getD cap ≤ cap := by
                cases mo with
                | none => simp; omega
                | some m => have := b3 m rfl; simp; omega
              by_cases h0 : rows = []
              · subst h0
                have hh0 : hh = 0 := by simp at b2; omega
                have hl0 : l = 0 := by omega
                subst hh0
                subst hl0
                refine ⟨.slice (some ⟨b, o, sp⟩) 0 (mo.getD cap), ?_, ?_⟩
                · simp only [Instr.sliceAt, Instr.slice, run_un hu, Sem.run_bind, Result.andThen_ok, run true cap c.w hc, run_sz hsz]
                  split <;> simp [Addr.add]
                · have := Rel.list (c := c) (cutTag tg 0 0 0 mo) [] b o sz (mo.getD cap) sp (.inl rfl) F (.inl rfl) (by simp) (fun e => ?_) (fun r hr => by cases hr) rfl (fun i j hi hj => by simp at hi) (fun i r j x hr hx => by cases hr)
                  · simpa using this
                  · unfold cutTag at e
                    cases mo with
                    | some m => have := b3 m rfl; simp only [List.length_nil, Option.getD_some] at this ⊢; omega
                    | none =>
                      split at e
                      · split at e
                        · rename_i e2; simp at e2
                        · cases e
                      · simp only at e
                        split at e
                        · rename_i e2; have := ht e2.1; simpa using this
                        · cases e
              obtain rfl := hsp.resolve_left h0
              have hlen : ((rows.drop l).take (hh - l)).length = hh - l := by simp; omega
              refine ⟨.slice (some ⟨b, if mo.getD cap = l then o else o + l * sz, none⟩) (hh - l) (mo.getD cap - l), ?_, ?_⟩
              · simp only [Instr.sliceAt, Instr.slice, run_un hu, Sem.run_bind, Result.andThen_ok, run true cap c.w hc, run_sz hsz]
                split <;> simp [add_spot]
              · have hrow : ∀ i r, ((rows.drop l).take (hh - l))[i]? = some r → rows[l + i]? = some r ∧ i < hh - l := fun i r hr => by
                  have hi : i < hh - l := by have := (List.getElem?_eq_some_iff.1 hr).1; omega
                  rw [List.getElem?_take, if_pos hi, List.getElem?_drop] at hr
                  exact ⟨hr, hi⟩
                have key : ∀ o', (hh - l ≠ 0 → o' = o + l * sz) → Rel c (.list (cutTag tg rows.length l hh mo) ((rows.drop l).take (hh - l))) (.slice (some ⟨b, o', none⟩) ((rows.drop l).take (hh - l)).length (mo.getD cap - l)) := by
                  intro o' ho'
                  refine .list _ _ b o' sz _ none (.inr rfl) (fun i j => F (l + i) j) ?_ (by omega) (fun e => ?_) (fun r hr => ?_) ?_ (fun i j hi hj => ?_) (fun i r j x hr hx => ?_)
                  · by_cases e : hh - l = 0
                    · exact .inl (List.eq_nil_of_length_eq_zero (by omega))
                    · refine .inr ?_
                      have hI : tg.In c b := hb'.resolve_left (fun e2 => by subst e2; simp at b2; omega)
                      unfold cutTag
                      split
                      · rename_i e2
                        rw [if_neg (fun h => e (by omega))]
                        subst e2
                        exact hI
                      · rename_i e2
                        have hI' : c.I b := by cases tg <;> first | exact hI | exact absurd rfl e2
                        split <;> split <;> exact hI'
                  · unfold cutTag at e
                    split at e
                    · split at e
                      · rename_i e3; rw [e3.1, hlen]; rfl
                      · cases e
                    · split at e
                      · split at e
                        · rename_i e3; subst e3; rw [hlen]; rfl
                        · cases e
                      · split at e
                        · rename_i e3
                          rw [hlen, e3.2]
                          have := ht e3.1
                          simp [this]
                        · cases e
                  · have := List.all_eq_true.1 hlo r (List.mem_of_mem_drop (List.mem_of_mem_take hr))
                    simpa using this
                  · exact List.all_eq_true.2 (fun r hr => List.all_eq_true.1 hv r (List.mem_of_mem_drop (List.mem_of_mem_take hr)))
                  · rw [hlen] at hi
                    have hr : rows[l + i]? = some rows[l + i] := List.getElem?_eq_getElem (by omega)
                    have e1 : sz' = sz := by
                      have a1 := hs _ (List.mem_of_getElem? hr)
                      have a2 := List.all_eq_true.1 hlo _ (List.mem_of_getElem? hr)
                      simp at a2
                      omega
                    subst e1
                    have := g1 (l + i) j (by omega) hj
                    rw [ho' (by omega)]
                    rw [Nat.add_mul] at this
                    have e4 : o + l * sz' + i * sz' + j = o + (l * sz' + i * sz') + j := by omega
                    rw [e4]
                    exact this
                  · obtain ⟨hr', _⟩ := hrow i r hr
                    exact g2 _ r j x hr' hx
                have := key (if mo.getD cap = l then o else o + l * sz) (fun hne => by rw [if_neg (by omega)])
                rwa [hlen] at this
          · cases h
        · cases h
      · rename_i tt l0 i n
        have key : ∀ {l hh R0 : Nat} {mo : Option Nat} {sz' : Nat} {rows : List (List AV)}, vbounds R0 lo hi mx = some (l, hh, mo) → (∃ T, H[l0]? = some (.arr T sz' rows)) ∨ H[l0]? = some (.frz sz' rows) → sz' = sz →
            (R0 = n ∨ hi.isSome = true) → (∀ cl o cap, o = cl.base + i * cl.sz → o + cap * cl.sz = cl.lim → c.ρ l0 = some cl → n ≤ cap → R0 ≤ cap) → n ≤ R0 →
            cutRow tt n R0 l0 i l hh mo = v → ∃ V, (Instr.sliceAt t X LO HI MX).run P c.w = .ok V c.w ∧ Rel c v V := by
          intro l hh R0 mo sz' rows hb hl e1 hR hRc hnR hv
          clear h
          subst e1
          subst hv
          cases hX with
          | row _ _ _ _ cl o cap hρ ho hn ht hlim =>
            have hclsz : cl.sz = sz' := obj_sz s hl hρ
            have hR0 := hRc cl o cap ho hlim hρ hn
            have hbs : l ≤ hh ∧ hh ≤ R0 ∧ (∀ m, mo = some m → hh ≤ m ∧ m ≤ R0) ∧ (Instr.sliceBounds true n cap LO HI MX).run P c.w = .ok (l, hh, mo.getD cap) c.w := by
              rcases hR with e | e
              · subst e
                obtain ⟨b1, b2, b3, b4, run⟩ := bounds_sound (P := P) h1 h2 h3 hb
                exact ⟨b1, b2, b3, run true cap c.w hR0⟩
              · obtain ⟨b1, b2, b3, b4, run⟩ := bounds_sound2 (P := P) h1 h2 h3 hb e
                exact ⟨b1, b2, b3, run true n cap c.w hR0⟩
            obtain ⟨b1, b2, b3, run⟩ := hbs
            have hcap : hh ≤ mo.getD cap ∧ mo.getD cap ≤ cap := by
              cases mo with
              | none => simp; omega
              | some m => have := b3 m rfl; simp; omega
            refine ⟨.slice (some ⟨cl.blk, if mo.getD cap = l then o else o + l * sz', none⟩) (hh - l) (mo.getD cap - l), ?_, ?_⟩
            · simp only [Instr.sliceAt, Instr.slice, run_un hu, Sem.run_bind, Result.andThen_ok, run, run_sz hsz]
              split <;> simp [add_spot]
            · have nl : ∀ tg cap', (tg = Tg.tight → cap' = 0) → hh - l = 0 → ∀ o', Rel c (.list tg []) (.slice (some ⟨cl.blk, o', none⟩) (hh - l) cap') := fun tg cap' hc h0 o' => by
                rw [h0]
                exact .list tg [] cl.blk o' sz' cap' none (.inl rfl) (fun _ _ => .nilFunc) (.inl rfl) (Nat.zero_le _) hc (fun r hr => by cases hr) rfl (fun i j hi => by cases hi) (fun i r j x hr => by cases hr)
              have body : ∀ (m : Nat) (b : Bool), mo.getD cap = m → m = cap → l < cap → (b = true → cap = hh) → Rel c (.row b l0 (i + l) (hh - l)) (.slice (some ⟨cl.blk, if mo.getD cap = l then o else o + l * sz', none⟩) (hh - l) (mo.getD cap - l)) := fun m b hm hmc hlc hb => by
                rw [if_neg (by omega), hm, hmc]
                refine .row _ _ _ _ cl _ _ hρ ?_ (by omega) (fun e => ?_) ?_
                · rw [ho, Nat.add_mul, hclsz]; omega
                · have := hb e; omega
                · rw [← hlim, hclsz]
                  have : l * sz' + (cap - l) * sz' = cap * sz' := by rw [← Nat.add_mul]; congr 1; omega
                  omega
              unfold cutRow
              cases mo with
              | some m =>
                simp only
                have := b3 m rfl
                split
                · rename_i e2
                  exact nl _ _ (fun _ => by simp; omega) (by omega) _
                · split
                  · rename_i e3
                    have hct := ht e3.1
                    exact body m _ rfl (by omega) (by omega) (fun e => by simp at e; omega)
                  · exact .undef _
              | none =>
                simp only
                split
                · rename_i e2
                  exact body cap _ rfl rfl (by omega) (fun e => by simp at e; have := ht e.1; omega)
                · rename_i e2
                  refine nl _ _ (fun e => ?_) (by omega) _
                  split at e
                  · rename_i e3
                    have := ht e3
                    simp; omega
                  · cases e
        split at h
        · rename_i T sz' rows hl
          split at h
          · rename_i l hh mo hb
            split at h
            · rename_i e1
              cases h
              by_cases hc : hi.isSome = true ∧ sz ≠ 0
              · have er : rowR hi sz n i rows = max n (rows.length - i) := by rw [rowR, if_pos hc]
                rw [er] at hb
                have em : max n (max n (rows.length - i)) = max n (rows.length - i) := by omega
                refine key hb (.inl ⟨T, hl⟩) e1 (.inr hc.1) (fun cl o cap ho hlim hρ hn => ?_) (by omega) (by rw [er, em])
                have hclsz : cl.sz = sz' := obj_sz s (.inl ⟨T, hl⟩) hρ
                obtain ⟨cl0, cells, e1', e2, e3, e4, e5, e6, e7⟩ := s.obj l0 _ hl
                rw [hρ] at e1'
                cases e1'
                rcases Nat.lt_or_ge i rows.length with hi2 | hi2
                · obtain ⟨g1, g2⟩ := e7 (rows.length - 1) _ (List.getElem?_eq_getElem (by omega))
                  obtain ⟨V, v1, _⟩ := g2 (sz - 1) _ (List.getElem?_eq_getElem (by omega))
                  have hlt := (Array.getElem?_eq_some_iff.1 v1).1
                  have hm : (rows.length - 1) * sz' + sz = rows.length * sz := by
                    rw [e1]
                    obtain ⟨q, hq⟩ : ∃ q, rows.length = q + 1 := ⟨rows.length - 1, by omega⟩
                    rw [hq, Nat.add_sub_cancel, Nat.add_mul]; omega
                  have h6 : cl.base + rows.length * sz ≤ cl.lim := by rw [← e4]; omega
                  have h7 : rows.length * sz ≤ (i + cap) * sz := by
                    rw [Nat.add_mul]
                    rw [ho, hclsz, e1] at hlim
                    omega
                  have := Nat.le_of_mul_le_mul_right h7 (by omega)
                  omega
                · omega
              · have er : rowR hi sz n i rows = n := by rw [rowR, if_neg hc]
                rw [er] at hb
                have em : max n n = n := by omega
                exact key hb (.inl ⟨T, hl⟩) e1 (.inl rfl) (fun cl o cap ho hlim hρ hn => hn) (Nat.le_refl _) (by rw [er, em])
            · cases h
          · cases h
        · rename_i sz' rows hl
          split at h
          · rename_i l hh mo hb
            split at h
            · rename_i e1
              cases h
              exact key hb (.inr hl) e1 (.inl rfl) (fun cl o cap ho hlim hρ hn => hn) (Nat.le_refl _) rfl
            · cases h
          · cases h
        · cases h
      · rename_i l0 i k es n
        split at h
        · rename_i l hh mo hb
          split at h
          · rename_i e1
            cases h
            subst e1
            cases hX with
            | sub _ _ _ _ _ cl o cap hρ ho hn =>
              obtain ⟨b1, b2, b3, b4, run⟩ := bounds_sound (P := P) h1 h2 h3 hb
              have hcap : hh ≤ mo.getD cap := by
                cases mo with
                | none => simp; omega
                | some m => have := b3 m rfl; simp; omega
              refine ⟨.slice (some ⟨cl.blk, if mo.getD cap = l then o else o + l * es, none⟩) (hh - l) (mo.getD cap - l), ?_, ?_⟩
              · simp only [Instr.sliceAt, Instr.slice, run_un hu, Sem.run_bind, Result.andThen_ok, run true cap c.w hn, run_sz hsz]
                split <;> simp [add_spot]
              · refine .sub _ _ _ _ _ cl _ _ hρ ?_ (by omega)
                by_cases e2 : mo.getD cap = l
                · exact .inr (by omega)
                · rw [if_neg e2]
                  rcases ho with ho | ho
                  · exact .inl (by rw [ho]; omega)
                  · exact .inr (by omega)
          · cases h
        · cases h
      · cases h
  · rename_i n e hu
    split at h
    · rename_i sz l0 i k hsz
      split at h
      · rename_i l hh mo hb
        cases h
        cases hX with
        | ptr _ _ _ cl hρ =>
          obtain ⟨b1, b2, b3, b4, run⟩ := bounds_sound (P := P) h1 h2 h3 hb
          have hcap : hh ≤ mo.getD n := by
            cases mo with
            | none => simp; omega
            | some m => have := b3 m rfl; simp; omega
          refine ⟨.slice (some ⟨cl.blk, if mo.getD n = l then cl.base + i * cl.sz + k else cl.base + i * cl.sz + k + l * sz, none⟩) (hh - l) (mo.getD n - l), ?_, ?_⟩
          · simp only [Instr.sliceAt, run_un hu, Sem.run_bind, Result.andThen_ok, Instr.sureAddr, Sem.run_pure, run false n c.w (Nat.le_refl _), run_sz hsz]
            split <;> simp [add_spot]
          · refine .sub _ _ _ _ _ cl _ _ hρ ?_ (by omega)
            by_cases e2 : mo.getD n = l
            · exact .inr (by omega)
            · rw [if_neg e2]
              exact .inl (by omega)
      · cases h
    · cases h
  · cases h
end Go.Vi
