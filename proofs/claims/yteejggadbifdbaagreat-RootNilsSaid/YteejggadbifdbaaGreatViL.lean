/- Vi, part L: one operation. -/
import Derived.Test.YteejggadbifdbaaGreatViS
set_option autoImplicit false
set_option linter.unusedVariables false
set_option linter.unusedSimpArgs false
namespace Go.Vi

abbrev Glob := Nat → Option (List AV)

def ev (G : Glob) (env : List AV) : Operand → Option AV
  | .tmp t => env[t]?
  | .const V => ofV V
  | .global g => (G g).map (.iptr false)
  | .func f => some (.clo f [])

def evL (e : Operand → Option AV) : List Operand → Option (List AV)
  | [] => some []
  | o :: r => match e o, evL e r with
    | some x, some xs => some (x :: xs)
    | _, _ => none

def evP (e : Operand → Option AV) : List (Nat × Operand) → Option (List (Nat × AV))
  | [] => some []
  | (i, o) :: r => match e o, evP e r with
    | some x, some xs => some ((i, x) :: xs)
    | _, _ => none

def evO (e : Operand → Option AV) : Option Operand → Option (Option AV)
  | none => some none
  | some o => (e o).map some

def EnvR (c : Cx) (env : List AV) (tmps : Array Value) : Prop :=
  env.length = tmps.size ∧ ∀ (t : Nat) (x : AV) (V : Value), env[t]? = some x → tmps[t]? = some V → Rel c x V

def GOK (c : Cx) (G : Glob) : Prop := ∀ g cs, G g = some cs → Rel c (.iptr false cs) (.pointer (some ⟨g, 0, none⟩))

theorem EnvR.mono {c c' : Cx} (m : Mono c c') {env : List AV} {tmps : Array Value} (h : EnvR c env tmps) : EnvR c' env tmps := ⟨h.1, fun t x V hx hV => (h.2 t x V hx hV).mono m⟩
theorem GOK.mono {c c' : Cx} (m : Mono c c') {G : Glob} (h : GOK c G) : GOK c' G := fun g cs hg => (h g cs hg).mono m

/-- Operands alike. -/
def OpR (c : Cx) (e : Operand → Option AV) (ρ : Operand → Value) : Prop := ∀ o x, e o = some x → Rel c x (ρ o)

theorem ev_sound {c : Cx} {G : Glob} {env : List AV} {a : Act} (h : EnvR c env a.tmps) (hg : GOK c G) : OpR c (ev G env) a.eval := by
  intro o x hx
  cases o with
  | tmp t =>
    have ht := (List.getElem?_eq_some_iff.1 hx).1
    have htt : t < a.tmps.size := by rw [← h.1]; exact ht
    have hV : a.tmps[t]? = some a.tmps[t] := Array.getElem?_eq_getElem htt
    have := h.2 t x _ hx hV
    simpa [Act.eval, Array.getD_eq_getD_getElem?, hV] using this
  | const V => exact ofV_rel hx
  | global g =>
    simp only [ev] at hx
    cases hG : G g with
    | none => rw [hG] at hx; cases hx
    | some cs => rw [hG] at hx; cases hx; exact hg g cs hG
  | func f => cases hx; exact .clo f [] #[] rfl (fun j x V hx => by cases hx)

theorem evP_sound {c : Cx} {e : Operand → Option AV} {ρ : Operand → Value} (h : OpR c e ρ) : ∀ {l : List (Nat × Operand)} {xs : List (Nat × AV)}, evP e l = some xs → PartsR c xs (l.map fun p => (p.1, ρ p.2))
  | [], xs, hx => by cases hx; exact .nil
  | (i, o) :: r, xs, hx => by
    unfold evP at hx
    split at hx
    · rename_i x ys h1 h2
      cases hx
      exact .cons (h o x h1) (evP_sound h h2)
    · cases hx

theorem evL_sound {c : Cx} {e : Operand → Option AV} {ρ : Operand → Value} (h : OpR c e ρ) : ∀ {l : List Operand} {xs : List AV}, evL e l = some xs → xs.length = l.length ∧ ∀ (j : Nat) (x : AV) (V : Value), xs[j]? = some x → (l.map ρ)[j]? = some V → Rel c x V
  | [], xs, hx => by cases hx; exact ⟨rfl, fun j x V hx => by cases hx⟩
  | o :: r, xs, hx => by
    unfold evL at hx
    split at hx
    · rename_i x ys h1 h2
      cases hx
      obtain ⟨i1, i2⟩ := evL_sound h h2
      refine ⟨by simp [i1], fun j y V hy hV => ?_⟩
      cases j with
      | zero => simp at hy hV; subst hy; subst hV; exact h o x h1
      | succ j => exact i2 j y V (by simpa using hy) (by simpa using hV)
    · cases hx

theorem evO_sound {c : Cx} {e : Operand → Option AV} {ρ : Operand → Value} (h : OpR c e ρ) {o : Option Operand} {x : Option AV} (hx : evO e o = some x) : RelO c x (o.map ρ) := by
  cases o with
  | none => cases hx; trivial
  | some o =>
    simp only [evO] at hx
    cases he : e o with
    | none => rw [he] at hx; cases hx
    | some v => rw [he] at hx; cases hx; exact h o v he

def AV.notNil : AV → Bool
  | .ptr .. | .iptr .. | .clo .. | .mapr _ | .row .. | .list .. | .iface .. => true
  | _ => false

def vmax2 (big : Bool) : AV → AV → Option AV
  | .int k x, .int k' y => if k = k' then some (.int k (if big then (if y > x then y else x) else (if y < x then y else x))) else none
  | _, _ => none

def vbuiltin (P : Program) (H : Hp) (b : Builtin) (ts : Array TypeId) (args : List AV) : Option (AV × Hp) :=
  match b, args with
  | .len, [x] => match ts[0]? with
    | some t => (vlen P H t x).map (·, H)
    | none => none
  | .append, [s, x] => match ts.toList with
    | [t, t2] => vappend P H t t2 s x
    | _ => none
  | .copy, [d, x] => match ts.toList with
    | [t, _] => vcopy P H t d x
    | _ => none
  | .max, [x, y] => (vmax2 true x y).map (·, H)
  | .min, [x, y] => (vmax2 false x y).map (·, H)
  | .unsafeSliceData, [x] => (vsliceData x).map (·, H)
  | .unsafeString, [p, n] => if ts.size = 2 then vunsafeStr P H ts p n else none
  | _, _ => none

def orX (a b : Option AV) : Option AV :=
  match a with
  | some z => some z
  | none => b

def isC : Operand → Bool
  | .const _ => true
  | _ => false
/-- Two nil interfaces, one of them the literal. -/
def vnilI (P : Program) (op : BinOp) (t : TypeId) (ox oy : Operand) (x y : AV) : Option AV := match x, y with
  | .nili, .nili => match P.underlying t, isC ox || isC oy, op with
    | some (.interface _), true, .eql => some (.bool true)
    | some (.interface _), true, .neq => some (.bool false)
    | _, _, _ => none
  | _, _ => none
theorem nilI_sound {P : Program} {c : Cx} {op : BinOp} {t : TypeId} {ox oy : Operand} {x y v : AV} {X Y : Value} (hX : Rel c x X) (hY : Rel c y Y) (h : vnilI P op t ox oy x y = some v) :
    ∃ V, (do eqGuard op t ox oy X Y; binOp op t X Y : Sem Value).run P c.w = .ok V c.w ∧ Rel c v V := by
  unfold vnilI at h
  split at h
  case h_2 => cases h
  cases hX
  cases hY
  have guard : (isC ox || isC oy) = true → ∀ op', (eqGuard op' t ox oy .nilIface .nilIface).run P c.w = .ok () c.w := by
    intro hc op'
    cases ox <;> cases oy <;> first
      | (cases hc; done)
      | (cases op' <;> simp [eqGuard])
  split at h
  · rename_i m hu hc
    cases h
    refine ⟨_, ?_, .bool _⟩
    have he : (Op.equal t .nilIface .nilIface).run P c.w = .ok true c.w := by
      have unf : Op.equal t .nilIface .nilIface = Op.equalIn (9999 + 1) t .nilIface .nilIface := rfl
      rw [unf, Op.equalIn, Sem.run_bind, run_un hu]
      rfl
    rw [Sem.run_bind, guard hc]
    simp only [binOp, Sem.run_bind, he, Result.andThen_ok]
    rfl
  · rename_i m hu hc
    cases h
    refine ⟨_, ?_, .bool _⟩
    have he : (Op.equal t .nilIface .nilIface).run P c.w = .ok true c.w := by
      have unf : Op.equal t .nilIface .nilIface = Op.equalIn (9999 + 1) t .nilIface .nilIface := rfl
      rw [unf, Op.equalIn, Sem.run_bind, run_un hu]
      rfl
    rw [Sem.run_bind, guard hc]
    simp only [binOp, Sem.run_bind, he, Result.andThen_ok]
    rfl
  · cases h
/-- One operation that is no call of a Go function. -/
def vmkI (d : TypeDesc) (t : TypeId) (a : AV) : Option AV := match d with
  | .interface _ => none
  | _ => some (.iface t a)
theorem mkI_sound {P : Program} {c : Cx} {t : TypeId} {d : TypeDesc} {x v : AV} {X : Value} (hX : Rel c x X) (hd : P.underlying t = some d) (h : vmkI d t x = some v) : ∃ V, (Instr.makeInterface t X).run P c.w = .ok V c.w ∧ Rel c v V := by
  unfold vmkI at h
  split at h
  · cases h
  · rename_i hne
    cases h
    refine ⟨.iface t X, ?_, .iface t x X hX⟩
    unfold Instr.makeInterface
    rw [Sem.run_bind, run_un hd, Result.andThen_ok]
    cases d <;> first | rfl | exact absurd rfl (hne _)
/-- The method of a value whose type is no pointer. -/
def methOf (P : Program) (t : TypeId) (name : String) : Option FuncId := match P.info? t, P.underlying t with
  | some i, some d => match i.methods.find? (·.name == name) with
    | some m => match m.path.toList, m.func, d with
      | [], some (_, false), .pointer _ => none
      | [], some (f, false), _ => some f
      | _, _, _ => none
    | none => none
  | _, _ => none
theorem run_nilAhead {P : Program} {t : TypeId} {name : String} {f : FuncId} (h : methOf P t name = some f) (V : Value) (k : Nat) (w : World) : (nilAhead (k + 1) t V name).run P w = .ok (some false) w := by
  unfold methOf at h
  split at h
  case h_2 => cases h
  rename_i i d hi hd
  split at h
  case h_2 => cases h
  rename_i m hm
  split at h
  · cases h
  · rename_i f' d' hne hp hf
    cases h
    have e1 : (Sem.run P (Sem.program Sem.pure) w) = .ok P w := rfl
    unfold nilAhead
    simp only [Sem.run_bind, typeInfo, program]
    rw [e1]
    simp only [Result.andThen_ok, hi, Sem.run_pure, hm, hp, followBlind, hne]
    simp only [Sem.run_bind, Sem.run_pure, Result.andThen_ok, run_un hd]
    split <;> first
      | rfl
      | exact (hf _ rfl).elim
  · cases h
/-- A method's value that is not nil. -/
def methNN (P : Program) : AV → Bool
  | .meth name t _ => (methOf P t name).isSome
  | _ => false
def vexec (P : Program) (e : Operand → Option AV) (H : Hp) (o : Oper) : Option (AV × Hp) :=
  match o.op with
  | .move x | .assign x => (e x).map (·, H)
  | .pick c a b => match e c with
    | some (.bool true) => (e a).map (·, H)
    | some (.bool false) => (e b).map (·, H)
    | _ => none
  | .alloc t => valloc P H t
  | .box t x => (e x).bind (vbox H t)
  | .build t parts => match evP e parts.toList with
    | some ps => (vbuild P t ps).map (·, H)
    | none => none
  | .buildSlice t len parts => match evP e parts.toList with
    | some ps => vbuildSlice P H t len ps
    | none => none
  | .load t a => match e a with
    | some p => (vload P H t p).map (·, H)
    | none => none
  | .store t a x => match e a, e x with
    | some p, some v => (vstore P H t p v).map (.tup [], ·)
    | _, _ => none
  | .nilCheck x => match e x with
    | some v => if (v.notNil || methNN P v) = true then some (v, H) else none
    | none => none
  | .binOp op t x y _ => match e x, e y with
    | some a, some b => (orX (vnilI P op t x y a b) (orX (vbin P op t a b) (vbinX P op t a b))).map (·, H)
    | _, _ => none
  | .unOp op _ x => match e x with
    | some a => (vun op a).map (·, H)
    | none => none
  | .makeInterface t x => match e x, P.underlying t with
    | some a, some d => (vmkI d t a).map (·, H)
    | _, _ => none
  | .convert src dst x => match e x with
    | some a => (orX (vconv P H src dst a) (vconvX P H src dst a)).map (·, H)
    | none => none
  | .makeFunc (.func f) first captured => if first.size = 0 then match evL e captured.toList with
      | some cs => some (.clo f cs, H)
      | none => none
    else none
  | .makeFunc (.method name) first captured => if captured.size = 0 then match evL e first.toList with
      | some [.iface t v] => some (.meth name t v, H)
      | _ => none
    else none
  | .makeSlice t l c => match e l, e c with
    | some a, some b => vmake P H t a b
    | _, _ => none
  | .slice t x lo hi mx => match e x, evO e lo, evO e hi, evO e mx with
    | some v, some l, some h, some m => (vslice P H t v l h m).map (·, H)
    | _, _, _, _ => none
  | .fieldAddr s x f => match e x with
    | some v => (vfield P s f v).map (·, H)
    | none => none
  | .field t x f => match e x with
    | some v => (vfieldOf P t f v).map (·, H)
    | none => none
  | .indexAddr t x ix => match e x, e ix with
    | some v, some i => (vindexAddr P H t v i).map (·, H)
    | _, _ => none
  | .index t x ix => match e x, e ix with
    | some v, some i => (vindex P t v i).map (·, H)
    | _, _ => none
  | .extract t i => match e t with
    | some v => (vextract v i).map (·, H)
    | none => none
  | .call { callee := .builtin b, args, argTypes } => match evL e args.toList with
    | some xs => vbuiltin P H b argTypes xs
    | none => none
  | _ => none

/-- What an operation has done on the machine's side. -/
def Ran (P : Program) (c : Cx) (H : Hp) (ρ : Operand → Value) (o : Oper) (v : AV) (H' : Hp) : Prop :=
  ∃ V c', ((execOp ρ o).run P c.w = .ok (.value V) c'.w ∨ ((execOp ρ o).run P c.w = .ok .skip c'.w ∧ V = undef)) ∧ To c H c' H' ∧ Rel c' v V

theorem Ran.of_yields {P : Program} {c : Cx} {H H' : Hp} {ρ : Operand → Value} {o : Oper} {v : AV} {s : Sem Value} (h : Yields P c H s v H') (he : execOp ρ o = (do pure (.value (← s)))) : Ran P c H ρ o v H' := by
  obtain ⟨V, c', h1, h2, h3⟩ := h
  exact ⟨V, c', .inl (by rw [he]; simp [h1]), h2, h3⟩

theorem Ran.of_same {P : Program} {c : Cx} {H : Hp} (s : Sim c H) {ρ : Operand → Value} {o : Oper} {v : AV} {e : Sem Value} (h : ∃ V, e.run P c.w = .ok V c.w ∧ Rel c v V) (he : execOp ρ o = (do pure (.value (← e)))) : Ran P c H ρ o v H := by
  obtain ⟨V, h1, h2⟩ := h
  exact Ran.of_yields (Yields.same s h1 h2) he

theorem max2_sound {P : Program} {c : Cx} {big : Bool} {x y v : AV} {X Y : Value} (hX : Rel c x X) (hY : Rel c y Y) (h : vmax2 big x y = some v) (ts : Array TypeId) (ty : TypeId) :
    ∃ V, ((if big then Builtin.max_ ts ty #[X, Y] else Builtin.min_ ts ty #[X, Y]) : Sem Value).run P c.w = .ok V c.w ∧ Rel c v V := by
  unfold vmax2 at h
  split at h
  · rename_i k a k' b
    split at h
    · rename_i e
      subst e
      cases h
      cases hX
      cases hY
      cases big
      · exact ⟨_, rfl, .int _ _⟩
      · exact ⟨_, rfl, .int _ _⟩
    · cases h
  · cases h

theorem builtin_sound {P : Program} {c : Cx} {H H' : Hp} (s : Sim c H) {b : Builtin} {ts : Array TypeId} {ty : TypeId} {cs : Array Bool} {args : List AV} {Vs : List Value} {v : AV} (hl : args.length = Vs.length)
    (ha : ∀ (j : Nat) (x : AV) (V : Value), args[j]? = some x → Vs[j]? = some V → Rel c x V) (h : vbuiltin P H b ts args = some (v, H')) :
    ∃ e : Sem Value, builtin b ts ty cs Vs.toArray = (do pure (.value (← e))) ∧ Yields P c H e v H' := by
  unfold vbuiltin at h
  split at h
  · rename_i x
    split at h
    · rename_i t ht
      cases hv : vlen P H t x with
      | none => rw [hv] at h; cases h
      | some y =>
        rw [hv] at h
        cases h
        match Vs, hl with
        | [V], _ =>
          obtain ⟨W, h1, h2⟩ := len_sound (ts := ts) (ty := ty) s ht (ha 0 x V rfl rfl) hv
          exact ⟨_, rfl, Yields.same s h1 h2⟩
    · cases h
  · rename_i a x
    split at h
    · rename_i t t2 ht
      match Vs, hl with
      | [A, X], _ =>
        have e : ts = #[t, t2] := by apply Array.ext'; simpa using ht
        subst e
        exact ⟨_, rfl, append_sound s (ha 0 a A rfl rfl) (ha 1 x X rfl rfl) h⟩
    · cases h
  · rename_i d x
    split at h
    · rename_i t t2 ht
      match Vs, hl with
      | [D, X], _ =>
        have e : ts = #[t, t2] := by apply Array.ext'; simpa using ht
        subst e
        exact ⟨_, rfl, copy_sound s (ha 0 d D rfl rfl) (ha 1 x X rfl rfl) h⟩
    · cases h
  · rename_i x y
    cases hv : vmax2 true x y with
    | none => rw [hv] at h; cases h
    | some z =>
      rw [hv] at h
      cases h
      match Vs, hl with
      | [X, Y], _ =>
        obtain ⟨W, h1, h2⟩ := max2_sound (P := P) (ha 0 x X rfl rfl) (ha 1 y Y rfl rfl) hv ts ty
        exact ⟨_, rfl, Yields.same s h1 h2⟩
  · rename_i x y
    cases hv : vmax2 false x y with
    | none => rw [hv] at h; cases h
    | some z =>
      rw [hv] at h
      cases h
      match Vs, hl with
      | [X, Y], _ =>
        obtain ⟨W, h1, h2⟩ := max2_sound (P := P) (ha 0 x X rfl rfl) (ha 1 y Y rfl rfl) hv ts ty
        exact ⟨_, rfl, Yields.same s h1 h2⟩
  · rename_i x
    cases hv : vsliceData x with
    | none => rw [hv] at h; cases h
    | some z =>
      rw [hv] at h
      cases h
      match Vs, hl with
      | [X], _ =>
        obtain ⟨W, h1, h2⟩ := sliceData_sound (P := P) (ts := ts) (ty := ty) (ha 0 x X rfl rfl) hv
        exact ⟨_, rfl, Yields.same s h1 h2⟩
  · rename_i p n
    split at h
    · rename_i hts
      match Vs, hl with
      | [A, N], _ => exact ⟨_, rfl, unsafeStr_sound s (ha 0 p A rfl rfl) (ha 1 n N rfl rfl) h hts⟩
    · cases h
  · cases h

theorem map_some {α β : Type} {x : Option α} {f : α → β} {y : β} (h : x.map f = some y) : ∃ a, x = some a ∧ f a = y := by
  cases x with
  | none => cases h
  | some a => exact ⟨a, rfl, by simpa using h⟩

set_option maxHeartbeats 2000000 in
theorem exec_sound {P : Program} {c : Cx} {H H' : Hp} (s : Sim c H) {e : Operand → Option AV} {ρ : Operand → Value} (he : OpR c e ρ) {o : Oper} {v : AV} (h : vexec P e H o = some (v, H')) : Ran P c H ρ o v H' := by
  obtain ⟨dst, op, type, pos, after, guard⟩ := o
  have val : ∀ x V, (execOp ρ ⟨dst, op, type, pos, after, guard⟩) = pure (.value V) → Rel c x V → Ran P c H ρ ⟨dst, op, type, pos, after, guard⟩ x H := fun x V hx hr =>
    ⟨V, c, .inl (by rw [hx]; rfl), To.refl s, hr⟩
  cases op with
  | move x =>
    obtain ⟨y, h1, h2⟩ := map_some h
    cases h2
    exact val _ _ rfl (he x _ h1)
  | assign x =>
    obtain ⟨y, h1, h2⟩ := map_some h
    cases h2
    exact val _ _ rfl (he x _ h1)
  | pick cd a b =>
    simp only [vexec] at h
    split at h
    · rename_i hc
      obtain ⟨y, h1, h2⟩ := map_some h
      cases h2
      have hcv := he cd _ hc
      refine ⟨ρ a, c, .inl ?_, To.refl s, he a _ h1⟩
      generalize hρ : ρ cd = C at hcv
      cases hcv
      simp [execOp, hρ, asBool]
    · rename_i hc
      obtain ⟨y, h1, h2⟩ := map_some h
      cases h2
      have hcv := he cd _ hc
      refine ⟨ρ b, c, .inl ?_, To.refl s, he b _ h1⟩
      generalize hρ : ρ cd = C at hcv
      cases hcv
      simp [execOp, hρ, asBool]
    · cases h
  | alloc t => exact Ran.of_yields (alloc_sound s h) rfl
  | box t x =>
    simp only [vexec] at h
    cases hx : e x with
    | none => rw [hx] at h; cases h
    | some y => rw [hx] at h; exact Ran.of_yields (box_sound s (he x y hx) h) rfl
  | build t parts =>
    simp only [vexec] at h
    split at h
    · rename_i ps hp
      obtain ⟨y, h1, h2⟩ := map_some h
      cases h2
      exact Ran.of_same s (build_sound (PS := parts.map fun p => (p.1, ρ p.2)) (by have := evP_sound he hp; simpa using this) h1) rfl
    · cases h
  | buildSlice t len parts =>
    simp only [vexec] at h
    split at h
    · rename_i ps hp
      exact Ran.of_yields (buildSlice_sound (PS := parts.map fun p => (p.1, ρ p.2)) s (by have := evP_sound he hp; simpa using this) h) rfl
    · cases h
  | load t a =>
    simp only [vexec] at h
    split at h
    · rename_i p hp
      obtain ⟨y, h1, h2⟩ := map_some h
      cases h2
      exact Ran.of_same s (load_sound s (he a p hp) h1) rfl
    · cases h
  | store t a x =>
    simp only [vexec] at h
    split at h
    · rename_i p y hp hy
      obtain ⟨H2, h1, h2⟩ := map_some h
      cases h2
      obtain ⟨c', r1, r2⟩ := store_sound (P := P) s (he a p hp) (he x y hy) h1
      refine ⟨undef, c', .inr ⟨?_, rfl⟩, r2, .tup [] #[] rfl (fun j x V hx => by cases hx)⟩
      show ((do Instr.storeAt t (ρ a) (ρ x); pure Next.skip : Sem Next)).run P c.w = _
      rw [Sem.run_bind, r1]
      rfl
    · cases h
  | nilCheck x =>
    simp only [vexec] at h
    split at h
    · rename_i y hy
      split at h
      · rename_i hn
        cases h
        have hr := he x _ hy
        refine ⟨ρ x, c, .inl ?_, To.refl s, hr⟩
        generalize hρ : ρ x = X at hr
        rcases Bool.or_eq_true .. ▸ hn with hn | hn
        · cases hr <;> first | (cases hn; done) | (simp [execOp, hρ]; done)
        · cases hr with
          | meth name t v V hV =>
            obtain ⟨f, hf⟩ := Option.isSome_iff_exists.1 hn
            obtain ⟨k, hk⟩ : ∃ k, P.types.size + Made.depth = k + 1 := ⟨P.types.size + Made.depth - 1, by
              have h1 : 0 < Made.depth := by decide
              omega⟩
            have e1 : (Sem.run P (Sem.program Sem.pure) c.w) = .ok P c.w := rfl
            simp only [execOp, hρ]
            have e0 : (#[Value.iface t V][0]? : Option Value) = some (.iface t V) := rfl
            simp only [e0]
            simp only [Sem.run_bind, program]
            rw [e1]
            simp only [Result.andThen_ok, hk, run_nilAhead hf]
            rfl
          | _ => cases hn
      · cases h
    · cases h
  | binOp op t x y yt =>
    simp only [vexec] at h
    split at h
    · rename_i a b ha hb
      obtain ⟨z, h1, h2⟩ := map_some h
      cases h2
      cases hn : vnilI P op t x y a b with
      | some w =>
        rw [hn] at h1
        cases h1
        exact Ran.of_same s (nilI_sound (he x a ha) (he y b hb) hn) rfl
      | none =>
        rw [hn] at h1
        simp only [orX] at h1
        cases hv : vbin P op t a b with
        | some w =>
          rw [hv] at h1
          cases h1
          exact Ran.of_same s (bin_sound x y (he x a ha) (he y b hb) hv) rfl
        | none =>
          rw [hv] at h1
          exact Ran.of_same s (binX_sound x y (he x a ha) (he y b hb) h1) rfl
    · cases h
  | makeInterface t x =>
    simp only [vexec] at h
    split at h
    · rename_i a d ha hd
      obtain ⟨z, h1, h2⟩ := map_some h
      cases h2
      exact Ran.of_same s (mkI_sound (he x a ha) hd h1) rfl
    · cases h
  | unOp op t x =>
    simp only [vexec] at h
    split at h
    · rename_i a ha
      obtain ⟨z, h1, h2⟩ := map_some h
      cases h2
      exact Ran.of_same s (un_sound (he x a ha) h1) rfl
    · cases h
  | convert src dst' x =>
    simp only [vexec] at h
    split at h
    · rename_i a ha
      obtain ⟨z, h1, h2⟩ := map_some h
      cases h2
      cases hv : vconv P H src dst' a with
      | some w =>
        rw [hv] at h1
        cases h1
        exact Ran.of_yields (conv_sound s (he x a ha) hv) rfl
      | none =>
        rw [hv] at h1
        exact Ran.of_yields (convX_sound s (he x a ha) h1) rfl
    · cases h
  | makeFunc fn first captured =>
    cases fn with
    | func f =>
      simp only [vexec] at h
      split at h
      · rename_i h0
        split at h
        · rename_i cs hcs
          cases h
          obtain ⟨l1, l2⟩ := evL_sound he hcs
          refine val _ (.func (.func f) #[] (captured.map ρ)) ?_ (.clo f cs _ (by simpa using l1) (fun j x V hx hV => l2 j x V hx (by simpa using hV)))
          have hf : first = #[] := Array.eq_empty_of_size_eq_zero h0
          subst hf
          simp [execOp, Instr.makeFunc]
        · cases h
      · cases h
    | method name =>
      simp only [vexec] at h
      split at h
      · rename_i h0
        split at h
        · rename_i t v hcs
          cases h
          obtain ⟨l1, l2⟩ := evL_sound he hcs
          have hf : captured = #[] := Array.eq_empty_of_size_eq_zero h0
          subst hf
          obtain ⟨o, ho⟩ : ∃ o, first.toList = [o] := by
            have h1 : first.toList.length = 1 := by simpa using l1.symm
            match hx : first.toList, h1 with
            | [o], _ => exact ⟨o, rfl⟩
          have hfo : first = #[o] := by apply Array.ext'; rw [ho]
          subst hfo
          have hr := l2 0 (.iface t v) (ρ o) rfl rfl
          generalize hρ : ρ o = X at hr
          cases hr with
          | iface _ _ V hV =>
            refine val _ (.func (.method name) #[.iface t V] #[]) ?_ (.meth name t v V hV)
            simp [execOp, Instr.makeFunc, hρ]
        · cases h
      · cases h
    | _ => cases h
  | makeSlice t l cp =>
    simp only [vexec] at h
    split at h
    · rename_i a b ha hb
      exact Ran.of_yields (make_sound s (he l a ha) (he cp b hb) h) rfl
    · cases h
  | slice t x lo hi mx =>
    simp only [vexec] at h
    split at h
    · rename_i a l hh m ha hl hhi hm
      obtain ⟨z, h1, h2⟩ := map_some h
      cases h2
      exact Ran.of_same s (slice_sound s (he x a ha) (evO_sound he hl) (evO_sound he hhi) (evO_sound he hm) h1) rfl
    · cases h
  | fieldAddr st x f =>
    simp only [vexec] at h
    split at h
    · rename_i a ha
      obtain ⟨z, h1, h2⟩ := map_some h
      cases h2
      exact Ran.of_same s (field_sound (he x a ha) h1) rfl
    · cases h
  | field t x f =>
    simp only [vexec] at h
    split at h
    · rename_i a ha
      obtain ⟨z, h1, h2⟩ := map_some h
      cases h2
      exact Ran.of_same s (fieldOf_sound (he x a ha) h1) rfl
    · cases h
  | indexAddr t x ix =>
    simp only [vexec] at h
    split at h
    · rename_i a b ha hb
      obtain ⟨z, h1, h2⟩ := map_some h
      cases h2
      exact Ran.of_same s (indexAddr_sound s (he x a ha) (he ix b hb) h1) rfl
    · cases h
  | index t x ix =>
    simp only [vexec] at h
    split at h
    · rename_i a b ha hb
      obtain ⟨z, h1, h2⟩ := map_some h
      cases h2
      exact Ran.of_same s (index_sound (he x a ha) (he ix b hb) h1) rfl
    · cases h
  | extract t i =>
    simp only [vexec] at h
    split at h
    · rename_i a ha
      obtain ⟨z, h1, h2⟩ := map_some h
      cases h2
      exact Ran.of_same s (extract_sound (he t a ha) h1) rfl
    · cases h
  | call cl =>
    obtain ⟨callee, args, ts⟩ := cl
    cases callee with
    | builtin b =>
      simp only [vexec] at h
      split at h
      · rename_i xs hxs
        obtain ⟨l1, l2⟩ := evL_sound he hxs
        obtain ⟨e', h1, h2⟩ := builtin_sound (ty := type) (cs := args.map fun | .const _ => true | _ => false) s (Vs := args.toList.map ρ) (by simpa using l1) l2 h
        refine Ran.of_yields h2 ?_
        rw [← h1]
        simp only [execOp, resolve, pure_bind, invoke]
        congr 1
        apply Array.ext'
        simp
      · cases h
    | _ => cases h
  | _ => cases h
end Go.Vi
