/- Vi, part F: numbers, strings, tests, conversions, lengths, cuts. -/
import Derived.Test.YtecjobmgphdjoaaGreatViE
set_option autoImplicit false
set_option linter.unusedVariables false
set_option linter.unusedSimpArgs false
namespace Go.Vi

/-! ### Operators -/
def vbits (op : BinOp) (k : IntKind) (x y : Int) : Option Int :=
  let a := BitVec.ofInt k.bits x
  let b := BitVec.ofInt k.bits y
  match op with
  | .and => some (k.wrap (a &&& b).toNat)
  | .or => some (k.wrap (a ||| b).toNat)
  | .xor => some (k.wrap (a ^^^ b).toNat)
  | .andNot => some (k.wrap (a &&& ~~~b).toNat)
  | _ => none

def vint (op : BinOp) (k : IntKind) (a b : Int) : Option AV :=
  match op with
  | .add => some (.int k (k.wrap (a + b)))
  | .sub => some (.int k (k.wrap (a - b)))
  | .mul => some (.int k (k.wrap (a * b)))
  | .quo => if b = 0 then none else some (.int k (k.wrap (a.tdiv b)))
  | .rem => if b = 0 then none else some (.int k (a.tmod b))
  | .and | .or | .xor | .andNot => (vbits op k a b).map (.int k)
  | .eql => some (.bool (a == b))
  | .neq => some (.bool (a != b))
  | .lss => some (.bool (a < b))
  | .leq => some (.bool (a ≤ b))
  | .gtr => some (.bool (a > b))
  | .geq => some (.bool (a ≥ b))
  | _ => none

/-- Texts alike; less. -/
def seq (x y : ByteArray) : Bool := x.toList == y.toList
def sless (x y : ByteArray) : Bool := Op.bytesLess x.toList y.toList

def vstr (op : BinOp) (x y : ByteArray) : Option AV :=
  match op with
  | .add => if ((x.size + y.size : Nat) : Int) > IntKind.i64.max then none else some (.str (x ++ y))
  | .eql => some (.bool (seq x y))
  | .neq => some (.bool (!seq x y))
  | .lss => some (.bool (sless x y))
  | .leq => some (.bool (sless x y || seq x y))
  | .gtr => some (.bool (!(sless x y || seq x y)))
  | .geq => some (.bool (!sless x y))
  | _ => none

/-- A test against nil. -/
def veqNil (P : Program) (t : TypeId) (x y : AV) : Option Bool :=
  match P.underlying t, x, y with
  | some (.pointer _), .nilp, .nilp => some true
  | some (.pointer _), .nilp, .ptr .. | some (.pointer _), .ptr .., .nilp | some (.pointer _), .nilp, .iptr .. | some (.pointer _), .iptr .., .nilp => some false
  | some (.slice _), .nils, .nils => some true
  | some (.slice _), .nils, .list .. | some (.slice _), .list .., .nils | some (.slice _), .nils, .row .. | some (.slice _), .row .., .nils
  | some (.slice _), .nils, .sub .. | some (.slice _), .sub .., .nils => some false
  | some (.map ..), .nilm, .nilm => some true
  | some (.map ..), .nilm, .mapr _ | some (.map ..), .mapr _, .nilm => some false
  | some (.func ..), .nilf, .nilf => some true
  | some (.func ..), .nilf, .clo .. | some (.func ..), .clo .., .nilf => some false
  | some .bool, .bool a, .bool b => some (a == b)
  | _, _, _ => none

def vbin (P : Program) (op : BinOp) (t : TypeId) (x y : AV) : Option AV :=
  match x, y with
  | .int k a, .int k' b => match op with
    | .shl => if b < 0 then none else some (.int k (k.wrap (a * 2 ^ (min b.toNat k.bits))))
    | .shr => if b < 0 then none else some (.int k (a.fdiv (2 ^ (min b.toNat k.bits))))
    | _ => if k = k' then vint op k a b else none
  | .str a, .str b => vstr op a b
  | _, _ => match op with
    | .eql => (veqNil P t x y).map .bool
    | .neq => (veqNil P t x y).map fun b => .bool (!b)
    | _ => none

theorem vint_sound {P : Program} {op : BinOp} {k : IntKind} {a b : Int} {v : AV} (h : vint op k a b = some v) (t : TypeId) (w : World) (hs : op ≠ .shl ∧ op ≠ .shr) :
    ∃ V, (binOp op t (.int k a) (.int k b)).run P w = .ok V w ∧ ∀ c, Rel c v V := by
  cases op <;> simp only [vint] at h <;> first
    | (cases h; refine ⟨_, ?_, fun c => .int k _⟩; simp [binOp, Op.intArith]; done)
    | (cases h; refine ⟨_, ?_, fun c => .bool _⟩; simp [binOp, Op.intCmp]; done)
    | (split at h
       · cases h
       · rename_i h0
         cases h
         refine ⟨_, ?_, fun c => .int k _⟩
         simp [binOp, Op.intDiv, h0])
    | (simp only [vbits, Option.map_some, Option.some.injEq] at h
       subst h
       refine ⟨_, ?_, fun c => .int k _⟩
       simp [binOp, Op.intBits])
    | (cases h; done)
    | (exact absurd rfl hs.1)
    | (exact absurd rfl hs.2)

theorem vstr_sound {P : Program} {op : BinOp} {a b : ByteArray} {v : AV} (h : vstr op a b = some v) (t : TypeId) (w : World) :
    ∃ V, (binOp op t (.string a) (.string b)).run P w = .ok V w ∧ ∀ c, Rel c v V := by
  cases op <;> simp only [vstr] at h <;> first
    | (cases h; exact ⟨_, rfl, fun c => .bool _⟩)
    | (split at h
       · cases h
       · rename_i h0
         cases h
         refine ⟨_, ?_, fun c => .str _⟩
         simp only [binOp, Op.stringOp, if_neg h0]
         rfl)
    | (cases h; done)

theorem equal_nil {P : Program} {c : Cx} {t : TypeId} {x y : AV} {X Y : Value} {r : Bool} (hX : Rel c x X) (hY : Rel c y Y) (h : veqNil P t x y = some r) (w : World) : (Op.equal t X Y).run P w = .ok r w := by
  have unf : Op.equal t X Y = Op.equalIn (9999 + 1) t X Y := rfl
  rw [unf, Op.equalIn, Sem.run_bind]
  unfold veqNil at h
  split at h <;> first | (cases h; done) | skip
  all_goals
    rename_i hu
    rw [run_un hu]
    cases h
    cases hX
    cases hY
    rfl

theorem eqGuard_skip {P : Program} {op : BinOp} {t : TypeId} {x y : Operand} {X Y : Value} (w : World) (h : ∀ (a b : Array Value), ¬ (X = .agg a ∧ Y = .agg b)) (h' : ¬ (X = .nilIface ∧ Y = .nilIface)) : (eqGuard op t x y X Y).run P w = .ok () w := by
  unfold eqGuard
  cases op <;> first
    | rfl
    | (cases X <;> first
        | rfl
        | (cases Y <;> first
            | rfl
            | exact absurd ⟨rfl, rfl⟩ h'
            | exact absurd ⟨rfl, rfl⟩ (h _ _)))

theorem bin_sound {P : Program} {c : Cx} {op : BinOp} {t : TypeId} {x y v : AV} {X Y : Value} (ox oy : Operand) (hX : Rel c x X) (hY : Rel c y Y) (h : vbin P op t x y = some v) :
    ∃ V, (do eqGuard op t ox oy X Y; binOp op t X Y : Sem Value).run P c.w = .ok V c.w ∧ Rel c v V := by
  unfold vbin at h
  split at h
  · rename_i k a k' b
    cases hX
    cases hY
    rw [Sem.run_bind, eqGuard_skip c.w (fun _ _ h => by cases h.1) (fun h => by cases h.1)]
    simp only [Result.andThen_ok]
    split at h
    · split at h
      · cases h
      · rename_i h0
        cases h
        refine ⟨_, ?_, .int _ _⟩
        simp [binOp, Op.shift, h0]
    · split at h
      · cases h
      · rename_i h0
        cases h
        refine ⟨_, ?_, .int _ _⟩
        simp [binOp, Op.shift, h0]
    · rename_i h1 h2
      split at h
      · rename_i e
        subst e
        obtain ⟨V, hr, hV⟩ := vint_sound (P := P) h t c.w ⟨h1, h2⟩
        exact ⟨V, hr, hV c⟩
      · cases h
  · rename_i a b
    cases hX
    cases hY
    rw [Sem.run_bind, eqGuard_skip c.w (fun _ _ h => by cases h.1) (fun h => by cases h.1)]
    simp only [Result.andThen_ok]
    obtain ⟨V, hr, hV⟩ := vstr_sound (P := P) h t c.w
    exact ⟨V, hr, hV c⟩
  · have nil : ∀ r, veqNil P t x y = some r → (eqGuard op t ox oy X Y).run P c.w = .ok () c.w ∧ ∀ op', op' = .eql ∨ op' = .neq → (binOp op' t X Y).run P c.w = .ok (.bool (if op' = .eql then r else !r)) c.w := by
      intro r hr
      have he := equal_nil hX hY hr c.w
      unfold veqNil at hr
      split at hr <;> first | (cases hr; done) | skip
      all_goals
        cases hX
        cases hY
        refine ⟨eqGuard_skip c.w (fun _ _ h => by cases h.1) (fun h => by cases h.1), fun op' ho => ?_⟩
        rcases ho with rfl | rfl
        · simp only [binOp, Sem.run_bind, he, Result.andThen_ok, if_true]
          rfl
        · simp only [binOp, Sem.run_bind, he, Result.andThen_ok, if_true]
          rfl
    split at h
    · cases hr : veqNil P t x y with
      | none => rw [hr] at h; cases h
      | some r =>
        rw [hr] at h
        cases h
        obtain ⟨h1, h2⟩ := nil r hr
        rw [Sem.run_bind, h1]
        exact ⟨_, h2 .eql (.inl rfl), .bool _⟩
    · cases hr : veqNil P t x y with
      | none => rw [hr] at h; cases h
      | some r =>
        rw [hr] at h
        cases h
        obtain ⟨h1, h2⟩ := nil r hr
        rw [Sem.run_bind, h1]
        exact ⟨_, h2 .neq (.inr rfl), .bool _⟩
    · cases h

def vun (op : UnOp) (x : AV) : Option AV :=
  match op, x with
  | .neg, .int k n => some (.int k (k.wrap (0 - n)))
  | .xor, .int k n => (vbits .xor k (if k.signed then -1 else k.max) n).map (.int k)
  | .not, .bool b => some (.bool !b)
  | _, _ => none

theorem un_sound {P : Program} {c : Cx} {op : UnOp} {x v : AV} {X : Value} (hX : Rel c x X) (h : vun op x = some v) : ∃ V, (Op.unary op X).run P c.w = .ok V c.w ∧ Rel c v V := by
  unfold vun at h
  split at h
  · cases h; cases hX; exact ⟨_, rfl, .int _ _⟩
  · simp only [vbits, Option.map_some, Option.some.injEq] at h
    subst h
    cases hX
    exact ⟨_, by simp [Op.unary, Op.intBits], .int _ _⟩
  · cases h; cases hX; exact ⟨_, rfl, .bool _⟩
  · cases h

/-! ### Conversions -/
def vconvInt (P : Program) (src dst : TypeId) (x : AV) : Option AV :=
  match P.underlying src, P.underlying dst, x with
  | some _, some (.int k), .int _ n => some (.int k (k.wrap n))
  | some _, some .string, .str s => some (.str s)
  | some _, some .string, .int _ n => some (.str (Utf8.encode n))
  | _, _, _ => none

theorem convInt_sound {P : Program} {c : Cx} {src dst : TypeId} {x v : AV} {X : Value} (hX : Rel c x X) (h : vconvInt P src dst x = some v) : ∃ V, (convert src dst X).run P c.w = .ok V c.w ∧ Rel c v V := by
  unfold vconvInt at h
  split at h
  · rename_i ds k k' n hs hd
    cases h; cases hX
    refine ⟨_, ?_, .int _ _⟩
    simp only [convert, Sem.run_bind, run_un hs, run_un hd, Result.andThen_ok]
    rfl
  · rename_i ds s hs hd
    cases h; cases hX
    refine ⟨_, ?_, .str _⟩
    simp only [convert, Sem.run_bind, run_un hs, run_un hd, Result.andThen_ok]
    cases ds <;> rfl
  · rename_i ds k n hs hd
    cases h; cases hX
    refine ⟨_, ?_, .str _⟩
    simp only [convert, Sem.run_bind, run_un hs, run_un hd, Result.andThen_ok]
    cases ds <;> rfl
  · cases h

/-! ### Rows as they are read -/
/-- The rows of a slice that is read. -/
def chunk (es : Nat) : Nat → List AV → List (List AV)
  | 0, _ => []
  | n + 1, cs => cs.take es :: chunk es n (cs.drop es)

def rowsOf (H : Hp) : AV → Option (List (List AV))
  | .nils => some []
  | .list _ rows => some rows
  | .row _ l i n => match H[l]? with
    | some (.arr _ _ rows) | some (.frz _ rows) => if i + n ≤ rows.length then some ((rows.drop i).take n) else none
    | _ => none
  | .sub l i k es n => match H[l]? with
    | some (.arr _ _ rows) | some (.frz _ rows) => match rows[i]? with
      | some r => if k + n * es ≤ r.length then some (chunk es n (r.drop k)) else none
      | none => none
    | _ => none
  | _ => none

theorem chunk_length (es : Nat) : ∀ (n : Nat) (cs : List AV), (chunk es n cs).length = n
  | 0, _ => rfl
  | n + 1, cs => by simp [chunk, chunk_length es n]
theorem chunk_get (es : Nat) : ∀ (n : Nat) (cs : List AV) (i : Nat), i < n → (chunk es n cs)[i]? = some ((cs.drop (i * es)).take es)
  | 0, _, _, h => by omega
  | n + 1, cs, 0, _ => by simp [chunk]
  | n + 1, cs, i + 1, h => by
    simp only [chunk, List.getElem?_cons_succ]
    rw [chunk_get es n _ i (by omega), List.drop_drop]
    congr 3
    rw [Nat.add_mul]
    omega

/-- Slices on the machine's side: their elements' cells. -/
def SliceAt (c : Cx) (V : Value) (sz : Nat) (rows : List (List AV)) : Prop :=
  (∃ base cap, V = .slice base 0 cap ∧ rows = []) ∨ ∃ b o cap, V = .slice (some ⟨b, o, none⟩) rows.length cap ∧ ∀ (i : Nat) (r : List AV), rows[i]? = some r → r.length = sz ∧ CellsAt c b (o + i * sz) r

theorem rows_sound {c : Cx} {H : Hp} (s : Sim c H) {x : AV} {X : Value} (hX : Rel c x X) {rows : List (List AV)} (h : rowsOf H x = some rows) {sz : Nat} (hsz : lenOk sz rows = true) : SliceAt c X sz rows := by
  have hlen : ∀ (i : Nat) (r : List AV), rows[i]? = some r → r.length = sz := fun i r hr => by
    have := List.all_eq_true.1 hsz r (List.mem_of_getElem? hr)
    simpa using this
  unfold rowsOf at h
  split at h
  · cases h; cases hX; exact .inl ⟨_, _, rfl, rfl⟩
  · cases h
    cases hX with
    | list _ _ b o sz' cap sp hsp F hb hc ht hs hv h1 h2 =>
      by_cases h0 : rows = []
      · subst h0
        exact .inl ⟨_, _, rfl, rfl⟩
      obtain rfl := hsp.resolve_left h0
      refine .inr ⟨b, o, cap, rfl, fun i r hr => ⟨hlen i r hr, fun j x hx => ?_⟩⟩
      have e : sz' = sz := (hs r (List.mem_of_getElem? hr)).symm.trans (hlen i r hr)
      subst e
      have hj := (List.getElem?_eq_some_iff.1 hx).1
      have := h1 i j (List.getElem?_eq_some_iff.1 hr).1 (by rw [hlen i r hr] at hj; exact hj)
      exact ⟨F i j, this.1, this.2, h2 i r j x hr hx⟩
  · rename_i t l i n
    have key : ∀ {sz' : Nat} {rows0 : List (List AV)}, (∃ T, H[l]? = some (.arr T sz' rows0)) ∨ H[l]? = some (.frz sz' rows0) → (if i + n ≤ rows0.length then some ((rows0.drop i).take n) else none) = some rows → SliceAt c X sz rows := by
      intro sz' rows0 hl h
      split at h
      · rename_i hle
        cases h
        cases hX with
        | row _ _ _ _ cl o cap hρ ho hn ht hlim =>
          have hn' : ((rows0.drop i).take n).length = n := by simp; omega
          refine .inr ⟨cl.blk, o, cap, by rw [hn'], fun q r hr => ⟨hlen q r hr, fun j x hx => ?_⟩⟩
          have hq : q < n := by have := (List.getElem?_eq_some_iff.1 hr).1; omega
          have hr' : rows0[i + q]? = some r := by
            rw [List.getElem?_take, if_pos hq, List.getElem?_drop] at hr
            exact hr
          have ho' : o = cl.base + i * cl.sz := ho
          have fin : ∀ {cells : Array Value} {T : TypeId} {fr : Nat × Nat}, c.w.heap[cl.blk]? = some (.cells cells T fr) → RowsAt c cells cl.base cl.sz rows0 → ∃ V, c.w.cell? ⟨cl.blk, o + q * sz + j, none⟩ = some V ∧ V.oneCell' = true ∧ Rel c x V := by
            intro cells T fr hh hR
            have e : cl.sz = sz := ((hR _ r hr').1).symm.trans (hlen q r hr)
            have := RowsAt.cells (k := 0) hh hR hr' j x (by simpa using hx)
            obtain ⟨V, v1, v2, v3⟩ := this
            refine ⟨V, ?_, v2, v3⟩
            rw [← v1, ho', ← e, Nat.add_mul]
            congr 2
            omega
          rcases hl with ⟨T, hl⟩ | hl
          · obtain ⟨cl', cells, e1, e2, e3, e4, e5, e6, e7⟩ := s.obj l _ hl
            rw [hρ] at e1
            cases e1
            subst e2
            exact fin e3 e7
          · obtain ⟨e0, cl', cells, T, fr, e1, e2, e3, e4, e5, e6⟩ := s.obj l _ hl
            rw [hρ] at e1
            cases e1
            subst e2
            exact fin e3 e6
      · cases h
    split at h
    · rename_i T sz' rows0 hl; exact key (.inl ⟨T, hl⟩) h
    · rename_i sz' rows0 hl; exact key (.inr hl) h
    · cases h
  · rename_i l i k es n
    have key : ∀ {sz' : Nat} {rows0 : List (List AV)}, (∃ T, H[l]? = some (.arr T sz' rows0)) ∨ H[l]? = some (.frz sz' rows0) → (match rows0[i]? with | some r => if k + n * es ≤ r.length then some (chunk es n (r.drop k)) else none | none => none) = some rows → SliceAt c X sz rows := by
      intro sz' rows0 hl h
      split at h
      · rename_i r0 hr0
        split at h
        · rename_i hle
          cases h
          cases hX with
          | sub _ _ _ _ _ cl o cap hρ ho hn =>
            refine .inr ⟨cl.blk, o, cap, by rw [chunk_length], fun q r hr => ⟨hlen q r hr, fun j x hx => ?_⟩⟩
            have hq : q < n := by have := (List.getElem?_eq_some_iff.1 hr).1; rw [chunk_length] at this; exact this
            have ho' := ho.resolve_right (by omega)
            have hl' := hlen q r hr
            rw [chunk_get _ _ _ _ hq] at hr
            cases hr
            have hes : es = sz := by
              rw [← hl', List.length_take, List.length_drop, List.length_drop]
              have := Nat.mul_le_mul_right es (show q + 1 ≤ n by omega)
              rw [Nat.add_mul, Nat.one_mul] at this
              omega
            subst hes
            have fin : ∀ {cells : Array Value} {T : TypeId} {fr : Nat × Nat}, c.w.heap[cl.blk]? = some (.cells cells T fr) → RowsAt c cells cl.base cl.sz rows0 → ∃ V, c.w.cell? ⟨cl.blk, o + q * es + j, none⟩ = some V ∧ V.oneCell' = true ∧ Rel c x V := by
              intro cells T fr hh hR
              rw [List.getElem?_take] at hx
              split at hx
              · rw [List.getElem?_drop, List.getElem?_drop] at hx
                have := RowsAt.cells (k := 0) hh hR hr0 (k + (q * es + j)) x (by simpa using hx)
                obtain ⟨V, v1, v2, v3⟩ := this
                refine ⟨V, ?_, v2, v3⟩
                rw [← v1, ho']
                congr 2
                omega
              · cases hx
            rcases hl with ⟨T, hl⟩ | hl
            · obtain ⟨cl', cells, e1, e2, e3, e4, e5, e6, e7⟩ := s.obj l _ hl
              rw [hρ] at e1
              cases e1
              subst e2
              exact fin e3 e7
            · obtain ⟨e0, cl', cells, T, fr, e1, e2, e3, e4, e5, e6⟩ := s.obj l _ hl
              rw [hρ] at e1
              cases e1
              subst e2
              exact fin e3 e6
        · cases h
      · cases h
    split at h
    · rename_i T sz' rows0 hl; exact key (.inl ⟨T, hl⟩) h
    · rename_i sz' rows0 hl; exact key (.inr hl) h
    · cases h
  · cases h

/-! ### Lengths -/
def vlen (P : Program) (H : Hp) (t : TypeId) (x : AV) : Option AV :=
  match P.underlying t, x with
  | some .string, .str s => some (.int .i64 s.size)
  | some (.array n _), _ => some (.int .i64 n)
  | some (.slice _), .nils => some (.int .i64 0)
  | some (.slice _), .list _ rows => some (.int .i64 rows.length)
  | some (.slice _), .row _ _ _ n => some (.int .i64 n)
  | some (.slice _), .sub _ _ _ _ n => some (.int .i64 n)
  | some (.map _ _), .nilm => some (.int .i64 0)
  | some (.map _ _), .mapr l => match H[l]? with
    | some (.map es) => some (.int .i64 es.length)
    | _ => none
  | _, _ => none

theorem run_getObj_map {P : Program} {w : World} {r : Nat} {ms : Array MapEntry} {clock : Nat} (h : w.heap[r]? = some (.map ms clock)) : (getObj r).run P w = .ok (.map ms clock) w := by
  simp [getObj, Sem.run, h]

theorem len_sound {P : Program} {c : Cx} {H : Hp} (s : Sim c H) {t ty : TypeId} {ts : Array TypeId} {x v : AV} {X : Value} (hts : ts[0]? = some t) (hX : Rel c x X) (h : vlen P H t x = some v) :
    ∃ V, (Builtin.len_ ts ty #[X]).run P c.w = .ok V c.w ∧ Rel c v V := by
  unfold vlen at h
  split at h
  all_goals first | (cases h; done) | skip
  · rename_i s hu; cases h; cases hX; exact ⟨_, by simp [Builtin.len_, hts, run_un hu]; rfl, .int _ _⟩
  · rename_i n e hu; cases h; exact ⟨_, by simp [Builtin.len_, hts, run_un hu]; rfl, .int _ _⟩
  · rename_i e hu; cases h; cases hX; exact ⟨_, by simp [Builtin.len_, hts, run_un hu]; rfl, .int _ _⟩
  · rename_i e tg rows hu; cases h; cases hX; exact ⟨_, by simp [Builtin.len_, hts, run_un hu]; rfl, .int _ _⟩
  · rename_i e t' l i n hu; cases h; cases hX; exact ⟨_, by simp [Builtin.len_, hts, run_un hu]; rfl, .int _ _⟩
  · rename_i e l i k es n hu; cases h; cases hX; exact ⟨_, by simp [Builtin.len_, hts, run_un hu]; rfl, .int _ _⟩
  · rename_i k e hu; cases h; cases hX; exact ⟨_, by simp [Builtin.len_, hts, run_un hu]; rfl, .int _ _⟩
  · rename_i k e l hu
    split at h
    · rename_i es hl
      cases h
      cases hX with
      | mapr _ cl hρ =>
        obtain ⟨cl', ms, e1, e2, e3, e4, e5, e6⟩ := s.obj l _ hl
        rw [hρ] at e1
        cases e1
        refine ⟨.int .i64 es.length, ?_, .int _ _⟩
        simp [Builtin.len_, hts, run_un hu, run_getObj_map e2, goInt, e5]
    · cases h
end Go.Vi
