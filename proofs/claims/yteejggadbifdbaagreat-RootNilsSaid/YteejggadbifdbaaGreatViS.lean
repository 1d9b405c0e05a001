/- Vi, part S: what package strings' Builder does: pointers held against each other, unsafe pointers, strings over bytes. -/
import Derived.Test.YteejggadbifdbaaGreatViH
import Derived.Lib.Builder
import Derived.Lib.UnsafeStr
import Derived.ChangeKeysEq
set_option autoImplicit false
set_option linter.unusedVariables false
set_option linter.unusedSimpArgs false
namespace Go.Vi

theorem lies_bytes {P : Program} {e : TypeId} (hc : P.cellsOf e = 1) (count off n : Nat) (hn : off + n ≤ count) : liesAt P P.depth e count off e n = true := by
  have hd : P.depth = (2 * (P.types.size + Made.depth) + 1) + 1 := rfl
  rw [hd]
  simp only [liesAt, Bool.or_eq_true]
  left
  rw [hd]
  simp [rowAt, hc, hn, sameLayout, Nat.mod_one]

/-- Booleans and pointers held against each other. -/
def vsame (P : Program) (t : TypeId) (x y : AV) : Option Bool :=
  match P.underlying t, x, y with
  | some .bool, .bool a, .bool b => some (a == b)
  | some (.pointer te), .ptr l i k, .ptr l' i' k' => if l = l' ∧ i = i' ∧ k = k' ∧ (P.info? te).isSome = true then some true else none
  | _, _, _ => none

/-- Structs of numbers, strings and truths held against each other. -/
def leafEq (P : Program) (t : TypeId) (x y : AV) : Option Bool :=
  match P.underlying t, x, y with
  | some .bool, .bool a, .bool b => some (a == b)
  | some (.int _), .int k a, .int k' b => if k = k' then some (a == b) else none
  | some .string, .str a, .str b => some (seq a b)
  | _, _, _ => none
def eqCells (P : Program) (xs ys : List AV) : List Field → Option Bool
  | [] => some true
  | f :: r => if f.name = "_" then none else match xs[f.offset]?, ys[f.offset]? with
    | some a, some b => match leafEq P f.type a b, eqCells P xs ys r with
      | some p, some q => some (p && q)
      | _, _ => none
    | _, _ => none
def isStruct (P : Program) (t : TypeId) : Bool := match P.underlying t with
  | some (.struct _) => true
  | _ => false
def veqAgg (P : Program) (t : TypeId) (x y : AV) : Option Bool :=
  match x, y with
  | .agg xs, .agg ys => if isStruct P t = true ∧ P.stoodInHeld t = false ∧ P.eqGuardType P.depth t = false then eqCells P xs ys (P.fieldsOf t).toList else none
  | _, _ => none

theorem leafEq_sound {P : Program} {c : Cx} {t : TypeId} {x y : AV} {X Y : Value} {b : Bool} (hX : Rel c x X) (hY : Rel c y Y) (h : leafEq P t x y = some b) (d : Nat) (w : World) :
    P.plainKey t = true ∧ (Op.equalIn (d + 1) t X Y).run P w = .ok b w := by
  unfold leafEq at h
  split at h
  · rename_i hu
    cases h; cases hX; cases hY
    exact ⟨by simp [Program.plainKey, hu], run_equalIn_bool w d t _ _ hu⟩
  · rename_i hu
    split at h
    · rename_i e
      subst e
      cases h; cases hX; cases hY
      exact ⟨by simp [Program.plainKey, hu], run_equalIn_int w d t _ _ _ _ hu⟩
    · cases h
  · rename_i hu
    cases h; cases hX; cases hY
    exact ⟨by simp [Program.plainKey, hu], run_equalIn_string w d t _ _ hu⟩
  · cases h
theorem eqCells_sound {P : Program} {c : Cx} {xs ys : List AV} {Xs Ys : Array Value} (hX : Rel c (.agg xs) (.agg Xs)) (hY : Rel c (.agg ys) (.agg Ys)) (d : Nat) (w : World) : ∀ (fs : List Field) (b : Bool), eqCells P xs ys fs = some b → (Op.eqFields (d + 1) Xs Ys fs).run P w = .ok b w
  | [], b, h => by
    cases h
    simp [Op.eqFields]
  | f :: r, b, h => by
    simp only [eqCells] at h
    split at h
    · cases h
    rename_i hn
    split at h
    · rename_i x y hx hy
      split at h
      · rename_i p q hp hq
        cases h
        have ih := eqCells_sound hX hY d w r q hq
        cases hX with
        | agg _ _ hl h1 h2 =>
          cases hY with
          | agg _ _ hl' h1' h2' =>
            obtain ⟨X, hXe⟩ : ∃ X, Xs[f.offset]? = some X := ⟨_, Array.getElem?_eq_getElem (by have := (List.getElem?_eq_some_iff.1 hx).1; omega)⟩
            obtain ⟨Y, hYe⟩ : ∃ Y, Ys[f.offset]? = some Y := ⟨_, Array.getElem?_eq_getElem (by have := (List.getElem?_eq_some_iff.1 hy).1; omega)⟩
            obtain ⟨hk, hr⟩ := leafEq_sound (h2 _ _ _ hx hXe) (h2' _ _ _ hy hYe) hp d w
            simp only [Op.eqFields, hn, ne_eq, not_false_eq_true, if_true, Sem.run_bind, run_part_plain w hk hXe, run_part_plain w hk hYe, hr, Result.andThen_ok]
            cases p
            · simp
            · simpa using ih
      · cases h
    · cases h
theorem eqAgg_sound {P : Program} {c : Cx} {t : TypeId} {x y : AV} {X Y : Value} {b : Bool} (hX : Rel c x X) (hY : Rel c y Y) (h : veqAgg P t x y = some b) (ox oy : Operand) (w : World) :
    ((binOp .eql t X Y).run P w = .ok (.bool b) w ∧ (binOp .neq t X Y).run P w = .ok (.bool (!b)) w) ∧ (∀ op', (eqGuard op' t ox oy X Y).run P w = .ok () w) := by
  unfold veqAgg at h
  split at h
  · rename_i xs ys
    split at h
    · rename_i hc
      obtain ⟨h1, h2, h3⟩ := hc
      have hst : P.underlying t = some (.struct (P.fieldsOf t)) := by
        unfold isStruct at h1
        unfold Program.fieldsOf
        split at h1
        · rename_i fs hu; rw [hu]
        · cases h1
      obtain ⟨Xs, rfl⟩ : ∃ Xs, X = .agg Xs := by cases hX; exact ⟨_, rfl⟩
      obtain ⟨Ys, rfl⟩ : ∃ Ys, Y = .agg Ys := by cases hY; exact ⟨_, rfl⟩
      have hr := run_equalIn_struct (P := P) w 9999 t Xs Ys hst h2
      rw [eqCells_sound hX hY 9998 w _ _ h] at hr
      refine ⟨⟨?_, ?_⟩, fun op' => run_eqGuard_agg w op' t ox oy Xs Ys h3⟩
      · rw [run_eql_struct, hr]; rfl
      · rw [run_neq_struct, hr]; rfl
    · cases h
  · cases h

def orB (a b : Option Bool) : Option Bool := match a with
  | some x => some x
  | none => b
def vbinX (P : Program) (op : BinOp) (t : TypeId) (x y : AV) : Option AV :=
  match op with
  | .eql => (orB (vsame P t x y) (veqAgg P t x y)).map .bool
  | .neq => (orB (vsame P t x y) (veqAgg P t x y)).map fun b => .bool (!b)
  | _ => none

theorem binX_sound {P : Program} {c : Cx} {op : BinOp} {t : TypeId} {x y v : AV} {X Y : Value} (ox oy : Operand) (hX : Rel c x X) (hY : Rel c y Y) (h : vbinX P op t x y = some v) :
    ∃ V, (do eqGuard op t ox oy X Y; binOp op t X Y : Sem Value).run P c.w = .ok V c.w ∧ Rel c v V := by
  have key : ∀ b, orB (vsame P t x y) (veqAgg P t x y) = some b → ((binOp .eql t X Y).run P c.w = .ok (.bool b) c.w ∧ (binOp .neq t X Y).run P c.w = .ok (.bool (!b)) c.w) ∧ (∀ op', (eqGuard op' t ox oy X Y).run P c.w = .ok () c.w) := by
    intro b hb
    cases hs : vsame P t x y with
    | none =>
      rw [hs] at hb
      exact eqAgg_sound hX hY hb ox oy c.w
    | some b0 =>
    rw [hs] at hb
    cases hb
    replace hb := hs
    clear hs
    unfold vsame at hb
    split at hb
    · rename_i a b' hu
      cases hb
      cases hX
      cases hY
      have k1 : ∀ d : Nat, (Op.equalIn (d + 1) t (.bool a) (.bool b')).run P c.w = .ok (a == b') c.w := fun d => by simp [Op.equalIn, run_underlying hu]
      refine ⟨⟨?_, ?_⟩, fun op' => by cases op' <;> simp [eqGuard]⟩ <;> simp only [binOp] <;> simp [Op.equal, Op.maxDepth, k1 9999]
    · rename_i te l i k l' i' k' hu
      split at hb
      · rename_i hc
        cases hb
        obtain ⟨rfl, rfl, rfl, hi⟩ := hc
        cases hX with
        | ptr _ _ _ cl hρ =>
          cases hY with
          | ptr _ _ _ cl' hρ' =>
            rw [hρ] at hρ'
            obtain rfl : cl = cl' := Option.some.inj hρ'
            obtain ⟨j, hj⟩ := Option.isSome_iff_exists.1 hi
            refine ⟨⟨?_, ?_⟩, fun op' => by cases op' <;> simp [eqGuard]⟩
            · exact run_eql_ptr_same c.w _ hu hj
            · exact Lib.run_neq_ptr_same c.w _ hu hj
      · cases hb
    · cases hb
  cases op <;> simp only [vbinX] at h <;> first
    | (cases h; done)
    | (obtain ⟨b, h1, h2⟩ := Option.map_eq_some_iff.1 h
       obtain ⟨⟨k1, k3⟩, k2⟩ := key b h1
       subst h2
       refine ⟨_, ?_, .bool _⟩
       rw [Sem.run_bind, k2]
       first
         | exact k1
         | exact k3)

/-- To an unsafe pointer and back, of a variable that lies alone. -/
def vconvX (P : Program) (H : Hp) (src dst : TypeId) (x : AV) : Option AV :=
  match x with
  | .ptr l 0 0 => match H[l]? with
    | some (.one T cs) => match P.underlying src, P.underlying dst with
      | some (.pointer t), some .unsafePointer => match P.info? t with
        | some j => if j.size ≠ 0 ∧ cs.length ≠ 0 then some (.ptr l 0 0) else none
        | none => none
      | some .unsafePointer, some (.pointer u) => match P.info? u with
        | some j => if liesAt P P.depth T (cs.length / P.cellsOf T) 0 u 1 = true then some (.ptr l 0 0) else none
        | none => none
      | _, _ => none
    | _ => none
  | _ => none

theorem convX_sound {P : Program} {c : Cx} {H : Hp} (s : Sim c H) {src dst : TypeId} {x v : AV} {X : Value} (hX : Rel c x X) (h : vconvX P H src dst x = some v) : Yields P c H (convert src dst X) v H := by
  unfold vconvX at h
  split at h
  · rename_i l
    split at h
    · rename_i T cs hl
      obtain ⟨cl, cells, e1, e2, e3, e4, e5, e6, e7, e8, e9⟩ := s.obj l _ hl
      cases hX with
      | ptr _ _ _ cl' hρ =>
        rw [hρ] at e1
        obtain rfl : cl' = cl := Option.some.inj e1
        have hsh : c.w.shape? cl'.blk = some (T, cs.length) := by simp [World.shape?, e3, e4, e9]
        have hoff : cl'.base + 0 * cl'.sz + 0 = 0 := by simp [e8]
        split at h
        · rename_i t hs hd
          split at h
          · rename_i j hj
            split at h
            · rename_i hc
              cases h
              refine Yields.same s (V := .pointer (some ⟨cl'.blk, cl'.base + 0 * cl'.sz + 0, none⟩)) ?_ (.ptr l 0 0 cl' hρ)
              rw [hoff]
              exact Lib.run_to_unsafe c.w ⟨cl'.blk, 0, none⟩ hs hd hj hc.1 hsh (by show 0 < cs.length; omega)
            · cases h
          · cases h
        · rename_i u hs hd
          split at h
          · rename_i j hj
            split at h
            · rename_i hc
              cases h
              refine Yields.same s (V := .pointer (some ⟨cl'.blk, cl'.base + 0 * cl'.sz + 0, none⟩)) ?_ (.ptr l 0 0 cl' hρ)
              rw [hoff]
              exact Lib.run_from_unsafe c.w ⟨cl'.blk, 0, none⟩ hs hd hj hsh hc
            · cases h
          · cases h
        · cases h
    · cases h
  · cases h

def valloc1 (P : Program) (H : Hp) (t : TypeId) : Option (AV × Hp) :=
  match zrOf P t with
  | some z => match z.cells with
    | some cs => some (.ptr H.length 0 0, H ++ [.one t cs])
    | none => none
  | none => none

theorem alloc1_sound {P : Program} {c : Cx} {H H' : Hp} (s : Sim c H) {t : TypeId} {v : AV} (h : valloc1 P H t = some (v, H')) : Yields P c H (Instr.alloc t true (.tuple #[])) v H' := by
  unfold valloc1 at h
  split at h
  · rename_i z hz
    split at h
    · rename_i cs hcs
      cases h
      obtain ⟨Z, h1, h2⟩ := run_zr hz c.w
      have hZ := (h2 c).cells hcs
      have hrow := rows_one (h2 c) hcs
      have hT := To.new s (.one t cs) (.cells Z.cells t) ⟨c.w.heap.size, 0, cs.length, Z.cells.size⟩ rfl fun c' m hρ hh hI hB =>
        ⟨_, Z.cells, hρ, rfl, hh, rfl, hI, hB, hrow.mono m, rfl, hZ.1⟩
      refine ⟨.pointer (some ⟨c.w.heap.size, 0, none⟩), _, ?_, hT, ?_⟩
      · simp [Instr.alloc, newVar, newRow, World.alloc_eq, h1]
      · have := Rel.ptr (c := { c with w := c.w.alloc (.cells Z.cells t), ρ := updρ c.ρ H.length ⟨c.w.heap.size, 0, cs.length, Z.cells.size⟩ }) H.length 0 0 _ (updρ_self _ _ _)
        simpa using this
    · cases h
  · cases h

/-- An object that is written no more, the world's mark of it laid at once. -/
theorem To.freezeW {c : Cx} {H : Hp} (s : Sim c H) {T : TypeId} {l sz : Nat} {rows : List (List AV)} (hl : H[l]? = some (.arr T sz rows)) (hv : allVal rows = true) {cl : CL} (e1 : c.ρ l = some cl) {w' : World} {cells : Array Value} {fr : Nat × Nat}
    (h0 : c.w.heap[cl.blk]? = some (.cells cells T (0, 0))) (hsz : w'.heap.size = c.w.heap.size) (hb : w'.heap[cl.blk]? = some (.cells cells T fr)) (hh : ∀ b, b ≠ cl.blk → w'.heap[b]? = c.w.heap[b]?) (h1 : w'.os = c.w.os) (h2 : w'.tape = c.w.tape) (h3 : w'.output = c.w.output) :
    To c H { c with w := w', I := fun b => c.I b ∨ b = cl.blk } (H.set l (.frz sz rows)) := by
  obtain ⟨cl0, cells0, f1, e2, e3, e4, e5, e6, e7⟩ := s.obj l _ hl
  rw [e1] at f1
  obtain rfl : cl = cl0 := Option.some.inj f1
  rw [h0] at e3
  cases e3
  have hlen : l < H.length := (List.getElem?_eq_some_iff.1 hl).1
  have hne : ∀ b, c.I b ∨ c.B b → b ≠ cl.blk := fun b h e => by subst e; exact h.elim e5 e6
  have m : Mono c { c with w := w', I := fun b => c.I b ∨ b = cl.blk } := ⟨fun _ h => .inl h, fun _ h => h, fun _ _ h => h, fun b h => hh b (hne b h)⟩
  have lv : ∀ k, live (H.set l (.frz sz rows)) k → k ≠ l ∧ live H k := fun k ⟨o2, h, hv2⟩ => by
    by_cases e : k = l
    · subst e
      rw [List.getElem?_set_self hlen] at h
      cases h
      cases hv2
    · rw [List.getElem?_set_ne (Ne.symm e)] at h
      exact ⟨e, o2, h, hv2⟩
  have hlt : cl.blk < c.w.heap.size := (Array.getElem?_eq_some_iff.1 h0).1
  refine ⟨⟨m, by show c.w.heap.size ≤ w'.heap.size; omega, fun b hb hn => hh b (fun e => hn ⟨l, cl, ⟨_, hl, rfl⟩, e1, e.symm⟩), fun b h => h.elim .inl (fun e => .inr (.inr ⟨l, cl, ⟨_, hl, rfl⟩, e1, e.symm⟩)), fun _ => Iff.rfl, fun _ _ h => .inl h, h1, h2, h3⟩,
    ⟨fun b hb => ?_, fun b hb => ?_, fun k o2 h => ?_, fun a b c1 c2 ha hb => s.inj a b c1 c2 (lv a ha).2 (lv b hb).2, fun k hk => s.fresh k (by simpa using hk)⟩, by simp, fun k _ h => (lv k h).2⟩
  · show b < w'.heap.size
    rcases hb with hb | rfl
    · have := s.bound b hb; omega
    · omega
  · show b < w'.heap.size
    have := s.boundB b hb; omega
  · by_cases e : k = l
    · subst e
      rw [List.getElem?_set_self hlen] at h
      cases h
      exact ⟨hv, cl, cells, T, fr, e1, e2, hb, e4, .inr rfl, e7.mono m⟩
    · rw [List.getElem?_set_ne (Ne.symm e)] at h
      have hbk : ∀ cl2, c.ρ k = some cl2 → o2.live = true → cl2.blk ≠ cl.blk := fun cl2 hr2 hv2 hi => e (s.inj k l cl2 cl (live_of h hv2) ⟨_, hl, rfl⟩ hr2 e1 hi)
      refine (s.obj k o2 h).keep m (fun cl2 hr2 hv2 hi => ?_) (fun _ h => h) (fun cl2 hr2 hv2 => hh _ (hbk cl2 hr2 hv2))
      rcases hi with hi | hi
      · exact hi
      · exact absurd hi (hbk cl2 hr2 hv2)

def vsliceData (x : AV) : Option AV :=
  match x with
  | .nils => some .nilp
  | .row _ l i n => if n ≠ 0 then some (.ptr l i 0) else none
  | _ => none

theorem sliceData_sound {P : Program} {c : Cx} {ts : Array TypeId} {ty : TypeId} {x v : AV} {X : Value} (hX : Rel c x X) (h : vsliceData x = some v) :
    ∃ V, (Builtin.unsafeSliceData_ ts ty #[X]).run P c.w = .ok V c.w ∧ Rel c v V := by
  unfold vsliceData at h
  split at h
  · cases h
    cases hX
    exact ⟨_, Lib.run_unsafeSliceData_nil c.w ts ty 0 0, .nilp⟩
  · rename_i t l i n
    split at h
    · rename_i hn
      cases h
      cases hX with
      | row _ _ _ _ cl o cap hρ ho hc ht hlim =>
        have hcap : cap ≠ 0 := by omega
        refine ⟨_, Lib.run_unsafeSliceData_row c.w ts ty _ n cap hcap, ?_⟩
        rw [ho]
        exact .ptr l i 0 cl hρ
    · cases h
  · cases h

def byteRows : List (List AV) → Option (List UInt8)
  | [] => some []
  | [.int .u8 n] :: r => match byteRows r with
    | some bs => if 0 ≤ n ∧ n < 256 then some (n.toNat.toUInt8 :: bs) else none
    | none => none
  | _ :: _ => none

theorem byteRows_get : ∀ {rows : List (List AV)} {bs : List UInt8}, byteRows rows = some bs → bs.length = rows.length ∧ ∀ (j : Nat) (x : UInt8), bs[j]? = some x → rows[j]? = some [.int .u8 x.toNat]
  | [], bs, h => by cases h; exact ⟨rfl, fun j x h => by cases h⟩
  | [] :: r, bs, h => by simp [byteRows] at h
  | (y :: z :: q) :: r, bs, h => by simp [byteRows] at h
  | [y] :: r, bs, h => by
    cases y with
    | int k n =>
      cases k with
      | u8 =>
        simp only [byteRows] at h
        split at h
        · rename_i bs' hb
          split at h
          · rename_i hn
            cases h
            obtain ⟨i1, i2⟩ := byteRows_get hb
            refine ⟨by simp [i1], fun j x hx => ?_⟩
            cases j with
            | zero =>
              simp at hx
              subst hx
              have : (n.toNat.toUInt8.toNat : Int) = n := by
                have h2 : n.toNat < 256 := by omega
                rw [UInt8.toNat_ofNat']
                omega
              simp only [List.getElem?_cons_zero, this]
            | succ j => simpa using i2 j x (by simpa using hx)
          · cases h
        · cases h
      | _ => simp [byteRows] at h
    | _ => simp [byteRows] at h

def vunsafeStr (P : Program) (H : Hp) (ts : Array TypeId) (p n : AV) : Option (AV × Hp) :=
  match p, n with
  | .nilp, .int .i64 0 => some (.str .empty, H)
  | .ptr l i 0, .int .i64 n => match ts.toList with
    | [pt, _] => match P.underlying pt, H[l]? with
      | some (.pointer e), some (.arr T sz rows) => if 0 < n ∧ n ≤ 9223372036854775807 ∧ T = e ∧ sz = 1 ∧ P.cellsOf e = 1 ∧ allVal rows = true then match byteRows ((rows.drop i).take n.toNat) with
          | some bs => if bs.length = n.toNat then some (.str ⟨bs.toArray⟩, H.set l (.frz sz rows)) else none
          | none => none
        else none
      | _, _ => none
    | _ => none
  | _, _ => none

theorem run_unsafeString {P : Program} (w : World) (pt it ty e : TypeId) (hp : P.underlying pt = some (.pointer e)) (hc : P.cellsOf e = 1) (g o cells : Nat) (hsh : w.shape? g = some (e, cells)) (l : List UInt8) (h0 : l ≠ []) (hn : o + l.length ≤ cells) (h63 : l.length ≤ 9223372036854775807)
    (hcell : ∀ j x, l[j]? = some x → w.cell? ((⟨g, o, none⟩ : Addr).add j) = some (.int .u8 x.toNat)) :
    (Builtin.unsafeString_ #[pt, it] ty #[.pointer (some ⟨g, o, none⟩), .int .i64 l.length]).run P w = .ok (.string ⟨l.toArray⟩) (w.freeze ⟨g, o, none⟩ l.length) := by
  have hl : l.length ≠ 0 := by simpa using h0
  have hlb := Lib.run_loadBytes (P := P) w l ⟨g, o, none⟩ .empty hcell
  have hlies := lies_bytes (P := P) hc (cells / P.cellsOf e) o l.length (by rw [hc]; simpa using hn)
  have h63' : ¬ (9223372036854775807 : Int) < (l.length : Int) := by omega
  have hmax : IntKind.i64.max = 9223372036854775807 := rfl
  have hneg : ¬ (l.length : Int) < 0 := by omega
  conv => lhs; arg 2; delta Builtin.unsafeString_; whnf
  generalize IntKind.i64.max.decLt (l.length : Int) = d
  cases d with
  | isTrue h => exact absurd h h63'
  | isFalse h => simp [asInt, asIntOf, hmax, h63', hneg, hl, variablesAt, hsh, elemOf, run_underlying hp, hlies, hlb]

theorem unsafeStr_sound {P : Program} {c : Cx} {H H' : Hp} (s : Sim c H) {ts : Array TypeId} {ty : TypeId} {p n v : AV} {A N : Value} (hA : Rel c p A) (hN : Rel c n N) (h : vunsafeStr P H ts p n = some (v, H')) (hts : ts.size = 2) :
    Yields P c H (Builtin.unsafeString_ ts ty #[A, N]) v H' := by
  unfold vunsafeStr at h
  split at h
  · cases h
    cases hA
    cases hN
    match ts, hts with
    | ⟨[pt, it]⟩, _ => exact Yields.same s (Lib.run_unsafeString_none c.w pt it ty none) (.str _)
  · rename_i l i n
    split at h
    · rename_i pt it hts'
      have ets : ts = #[pt, it] := by apply Array.ext'; simpa using hts'
      subst ets
      split at h
      · rename_i e T sz rows hu hl
        split at h
        · rename_i hc
          obtain ⟨c1, c2, rfl, rfl, c5, c6⟩ := hc
          split at h
          · rename_i bs hbs
            split at h
            · rename_i hlen
              cases h
              obtain ⟨b1, b2⟩ := byteRows_get hbs
              cases hN
              cases hA with
              | ptr _ _ _ cl hρ =>
                obtain ⟨cl0, cells, f1, e2, e3, e4, e5, e6, e7⟩ := s.obj l _ hl
                rw [hρ] at f1
                obtain rfl : cl = cl0 := Option.some.inj f1
                have hcell : ∀ j x, bs[j]? = some x → cells[cl.base + i + j]? = some (.int .u8 x.toNat) := fun j x hx => by
                  have hr := b2 j x hx
                  have hj : j < n.toNat := by have := (List.getElem?_eq_some_iff.1 hx).1; omega
                  rw [List.getElem?_take, if_pos hj, List.getElem?_drop] at hr
                  obtain ⟨V, v1, v2, v3⟩ := (e7 (i + j) _ hr).2 0 _ rfl
                  cases v3
                  rw [← v1]
                  congr 1
                  omega
                have hne : bs ≠ [] := fun h0 => by subst h0; simp at hlen; omega
                have hin : cl.base + i + bs.length ≤ cells.size := by
                  have hp : 0 < bs.length := List.length_pos_iff.2 hne
                  have := hcell (bs.length - 1) _ (List.getElem?_eq_getElem (by omega))
                  have := (Array.getElem?_eq_some_iff.1 this).1
                  omega
                have hsh : c.w.shape? cl.blk = some (T, cells.size) := by simp [World.shape?, e3]
                have hoff : cl.base + i * cl.sz + 0 = cl.base + i := by rw [e2]; simp
                have hnn : (bs.length : Int) = n := by omega
                have hrun := run_unsafeString (P := P) c.w pt it ty T hu c5 cl.blk (cl.base + i) cells.size hsh bs hne hin (by omega) (fun j x hx => by
                  rw [add_spot, cell_at e3]
                  exact hcell j x hx)
                rw [hnn] at hrun
                obtain ⟨fr, g1, g2, g3, g4, g5, g6⟩ : ∃ fr, (c.w.freeze ⟨cl.blk, cl.base + i, none⟩ bs.length).heap[cl.blk]? = some (.cells cells T fr) ∧ (c.w.freeze ⟨cl.blk, cl.base + i, none⟩ bs.length).heap.size = c.w.heap.size ∧
                    (∀ b, b ≠ cl.blk → (c.w.freeze ⟨cl.blk, cl.base + i, none⟩ bs.length).heap[b]? = c.w.heap[b]?) ∧ (c.w.freeze ⟨cl.blk, cl.base + i, none⟩ bs.length).os = c.w.os ∧ (c.w.freeze ⟨cl.blk, cl.base + i, none⟩ bs.length).tape = c.w.tape ∧ (c.w.freeze ⟨cl.blk, cl.base + i, none⟩ bs.length).output = c.w.output := by
                  have hbl : bs.length ≠ 0 := by simpa using hne
                  have hget : ∃ fr, (c.w.freeze ⟨cl.blk, cl.base + i, none⟩ bs.length).heap[cl.blk]? = some (.cells cells T fr) := by
                    simp only [World.freeze, if_neg hbl]
                    rw [Array.getElem?_modify, if_pos rfl, e3]
                    exact ⟨_, rfl⟩
                  obtain ⟨fr, hfr⟩ := hget
                  refine ⟨fr, hfr, ?_, fun b hb => ?_, ?_, ?_, ?_⟩ <;> simp only [World.freeze, if_neg hbl]
                  · simp
                  · rw [Array.getElem?_modify, if_neg (Ne.symm hb)]
                have T1 := To.freezeW s hl c6 hρ e3 g2 g1 g3 g4 g5 g6
                refine ⟨_, _, ?_, T1, .str _⟩
                rw [hoff]
                exact hrun
            · cases h
          · cases h
        · cases h
      · cases h
    · cases h
  · cases h
end Go.Vi
