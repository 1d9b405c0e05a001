/- Vi, part Ma: maps whose keys are numbers (64 bits): made, read, written; walks over them, in an order that nobody knows. -/
import Derived.Test.YteejggadbifdbaaGreatViL
import Derived.MapKept
import Derived.Laws.IdiomRangeMap
set_option autoImplicit false
set_option linter.unusedVariables false
set_option linter.unusedSimpArgs false
namespace Go.Vi

/-- The first entry under a key, and its number. -/
def mfind (k : Int) : List (Int × AV) → Nat → Option (Nat × AV)
  | [], _ => none
  | e :: r, i => if e.1 = k then some (i, e.2) else mfind k r (i + 1)
def mset (k : Int) (v : AV) : List (Int × AV) → List (Int × AV)
  | [] => [(k, v)]
  | e :: r => if e.1 = k then (k, v) :: r else e :: mset k v r
def intMap (P : Program) (t : TypeId) : Option TypeId :=
  match P.underlying t with
  | some (.map kt et) => match P.underlying kt with
    | some (.int .i64) => some et
    | _ => none
  | _ => none
theorem intMap_un {P : Program} {t et : TypeId} (h : intMap P t = some et) : ∃ kt, P.underlying t = some (.map kt et) ∧ P.underlying kt = some (.int .i64) := by
  unfold intMap at h
  split at h
  · rename_i kt e h1
    split at h
    · rename_i h2; cases h; exact ⟨kt, h1, h2⟩
    · cases h
  · cases h

def vmakeMap (H : Hp) (r : Option Operand) : Option (AV × Hp) := if r.isNone = true then some (.mapr H.length, H ++ [.map []]) else none
def vlookup (P : Program) (H : Hp) (t : TypeId) (x k : AV) (ok : Bool) : Option AV :=
  match intMap P t, x, k with
  | some et, .mapr l, .int .i64 n => match H[l]? with
    | some (.map es) => match mfind n es 0 with
      | some (_, v) => some (if ok = true then .tup [v, .bool true] else v)
      | none => (zrOf P et).map fun v => if ok = true then .tup [v, .bool false] else v
    | _ => none
  | _, _, _ => none
def vmapUpdate (P : Program) (H : Hp) (t : TypeId) (x k v : AV) : Option Hp :=
  match intMap P t, x, k with
  | some _, .mapr l, .int .i64 n => match H[l]? with
    | some (.map es) => some (H.set l (.map (mset n v es)))
    | _ => none
  | _, _, _ => none
def vrange (P : Program) (H : Hp) (t : TypeId) (x : AV) : Option (AV × Hp) :=
  match intMap P t, x with
  | some _, .mapr l => match H[l]? with
    | some (.map es) => some (.ptr H.length 0 0, H ++ [.iter l es.length []])
    | _ => none
  | _, _ => none
def ventry (H : Hp) (x : AV) : Option AV :=
  match x with
  | .ptr li 0 0 => match H[li]? with
    | some (.iter l n seen) => match seen.getLast?, H[l]? with
      | some j, some (.map es) => if es.length = n then (es[j]?).map fun e => .tup [.int .i64 e.1, e.2] else none
      | _, _ => none
    | _ => none
  | _ => none
/-- The walk's next step: none is left, or one that is left, whichever. -/
def vnext (H : Hp) (x : AV) (k : AV → Hp → Prop) : Prop :=
  match x with
  | .ptr li 0 0 => match H[li]? with
    | some (.iter l n seen) => match H[l]? with
      | some (.map es) => es.length = n ∧ ((∀ j, j < n → j ∈ seen) → k (.tup [.bool false]) H) ∧
          ∀ j e, es[j]? = some e → j ∉ seen → k (.tup [.bool true, .int .i64 e.1, e.2]) (H.set li (.iter l n (seen ++ [j])))
      | _ => False
    | _ => False
  | _ => False

theorem new_map {c : Cx} {H : Hp} (s : Sim c H) : To c H { c with w := c.w.alloc (.map #[] 0), ρ := updρ c.ρ H.length ⟨c.w.heap.size, 0, 0, 0⟩ } (H ++ [.map []]) :=
  To.new s _ _ _ rfl fun c' m hρ hh hI hB => ⟨_, #[], hρ, hh, hI, hB, rfl, fun j e he => by cases he⟩

theorem makeMap_sound {P : Program} {c : Cx} {H H' : Hp} (s : Sim c H) {t : TypeId} {r : Option Operand} {ρ : Operand → Value} {v : AV} (h : vmakeMap H r = some (v, H')) : Yields P c H (Instr.makeMap t (r.map ρ)) v H' := by
  unfold vmakeMap at h
  split at h
  · rename_i hr
    cases h
    cases r with
    | some x => cases hr
    | none => exact ⟨.map (some c.w.heap.size), _, rfl, new_map s, Rel.mapr _ (⟨c.w.heap.size, 0, 0, 0⟩ : CL) (updρ_self _ _ _)⟩
  · cases h

theorem mfind_get {k : Int} : ∀ {es : List (Int × AV)} {i j : Nat} {v : AV}, mfind k es i = some (j, v) → i ≤ j ∧ ∃ n, es[j - i]? = some (n, v) ∧ n = k
  | [], _, _, _, h => by cases h
  | e :: r, i, j, v, h => by
    unfold mfind at h
    split at h
    · rename_i hk
      cases h
      exact ⟨Nat.le_refl _, e.1, by simp, hk⟩
    · obtain ⟨h1, n, h2, h3⟩ := mfind_get h
      refine ⟨by omega, n, ?_, h3⟩
      rw [show j - i = (j - (i + 1)) + 1 by omega]
      simpa using h2

/-- The machine's entries of a map. -/
def MapAt (c : Cx) (ms : List MapEntry) (i : Nat) (es : List (Int × AV)) : Prop :=
  ms.length = es.length ∧ ∀ (j : Nat) (e : Int × AV), es[j]? = some e → ∃ V, ms[j]? = some ⟨.int .i64 e.1, V, i + j⟩ ∧ Rel c e.2 V

theorem MapAt.tail {c : Cx} {m : MapEntry} {ms : List MapEntry} {i : Nat} {e : Int × AV} {es : List (Int × AV)} (h : MapAt c (m :: ms) i (e :: es)) : MapAt c ms (i + 1) es := by
  refine ⟨by simpa using h.1, fun j e' he => ?_⟩
  obtain ⟨V, h1, h2⟩ := h.2 (j + 1) e' (by simpa using he)
  exact ⟨V, by simpa [Nat.add_assoc, Nat.add_comm 1] using h1, h2⟩

theorem find_now {c : Cx} {k : Int} : ∀ {es : List (Int × AV)} {ms : List MapEntry} (i : Nat), MapAt c ms i es →
    (mfind k es i = none → Instr.findNow (.int .i64) (.int .i64 k) ms i = some none) ∧
    ∀ j v, mfind k es i = some (j, v) → ∃ V, Instr.findNow (.int .i64) (.int .i64 k) ms i = some (some (j, V)) ∧ Rel c v V ∧ ∃ n, ms[j - i]? = some ⟨.int .i64 k, V, n⟩
  | [], ms, i, h => by
    have := List.length_eq_zero_iff.1 h.1
    subst this
    exact ⟨fun _ => rfl, fun j v h => by cases h⟩
  | e :: r, ms, i, h => by
    cases ms with
    | nil => cases h.1
    | cons m ms =>
      obtain ⟨V, h1, h2⟩ := h.2 0 e rfl
      simp at h1
      subst h1
      have ih := find_now (k := k) (i + 1) h.tail
      simp only [mfind, Instr.findNow, Instr.sameNow, if_true]
      by_cases hk : e.1 = k
      · rw [if_pos hk]
        have hb : (k == e.1) = true := beq_iff_eq.2 hk.symm
        rw [hb]
        refine ⟨(by intro h; cases h), fun j v hv => ?_⟩
        cases hv
        exact ⟨V, rfl, h2, i, by simp [hk]⟩
      · rw [if_neg hk]
        have hb : (k == e.1) = false := beq_eq_false_iff_ne.2 (fun h => hk h.symm)
        rw [hb]
        refine ⟨ih.1, fun j v hv => ?_⟩
        obtain ⟨V', a, b, n, d⟩ := ih.2 j v hv
        have hj := (mfind_get hv).1
        refine ⟨V', a, b, n, ?_⟩
        rw [show j - i = (j - (i + 1)) + 1 by omega]
        simpa using d

theorem checkKey_int {P : Program} {kt : TypeId} (h : P.underlying kt = some (.int .i64)) (em : Bool) (n : Int) (w : World) : (Instr.checkKey em 10000 kt (.int .i64 n)).run P w = .ok () w := by
  rw [show (10000 : Nat) = 9999 + 1 from rfl]
  unfold Instr.checkKey
  rw [Sem.run_bind, run_un h]
  rfl

theorem lookup_sound {P : Program} {c : Cx} {H : Hp} (s : Sim c H) {t : TypeId} {x k v : AV} {X K : Value} {ok : Bool} (hX : Rel c x X) (hK : Rel c k K) (h : vlookup P H t x k ok = some v) :
    ∃ V, (Instr.lookup t X K ok).run P c.w = .ok V c.w ∧ Rel c v V := by
  unfold vlookup at h
  split at h
  · rename_i et l n hi
    obtain ⟨kt, u1, u2⟩ := intMap_un hi
    cases hK
    cases hX with
    | mapr _ cl hρ =>
      split at h
      · rename_i es hl
        obtain ⟨cl', ms, e1, e2, e3, e4, e5, e6⟩ := s.obj l _ hl
        rw [hρ] at e1
        cases e1
        have hm : MapAt c ms.toList 0 es := ⟨by simpa using e5, fun j e he => by obtain ⟨V, a, b⟩ := e6 j e he; exact ⟨V, by simpa using a, b⟩⟩
        obtain ⟨f1, f2⟩ := find_now (k := n) 0 hm
        have hrun : ∀ j V, Instr.findNow (.int .i64) (.int .i64 n) ms.toList 0 = some (some (j, V)) → (Instr.lookup t (.map (some cl.blk)) (.int .i64 n) ok).run P c.w = .ok (if ok then .tuple #[V, .bool true] else V) c.w := fun j V ha => by
          unfold Instr.lookup
          simp only [Sem.run_bind, run_un u1, Result.andThen, run_getObj_map e2, Sem.run_pure, checkKey_int u2, MapKept.run_findKey u2 ha]
        have hrun0 : ∀ Z, (zeroValue et).run P c.w = .ok Z c.w → Instr.findNow (.int .i64) (.int .i64 n) ms.toList 0 = some none → (Instr.lookup t (.map (some cl.blk)) (.int .i64 n) ok).run P c.w = .ok (if ok then .tuple #[Z, .bool false] else Z) c.w := fun Z hz ha => by
          unfold Instr.lookup
          simp only [Sem.run_bind, run_un u1, Result.andThen, run_getObj_map e2, Sem.run_pure, checkKey_int u2, MapKept.run_findKey u2 ha, hz]
        split at h
        · rename_i j v' hf
          cases h
          obtain ⟨V, a, b, _⟩ := f2 j v' hf
          cases ok with
          | true => exact ⟨.tuple #[V, .bool true], by rw [hrun _ _ a]; rfl, .tup _ _ rfl (fun j y Y hy hY => by
              match j, hy, hY with
              | 0, hy, hY => cases hy; cases hY; exact b
              | 1, hy, hY => cases hy; cases hY; exact .bool _
              | j + 2, hy, hY => cases hy)⟩
          | false => exact ⟨V, by rw [hrun _ _ a]; rfl, b⟩
        · rename_i hf
          obtain ⟨z, hz, hv⟩ := map_some h
          obtain ⟨Z, z1, z2⟩ := run_zr hz c.w
          have hr := hrun0 Z z1 (f1 hf)
          cases ok with
          | true =>
            subst hv
            exact ⟨.tuple #[Z, .bool false], hr, .tup _ _ rfl (fun j y Y hy hY => by
              match j, hy, hY with
              | 0, hy, hY => cases hy; cases hY; exact z2 c
              | 1, hy, hY => cases hy; cases hY; exact .bool _
              | j + 2, hy, hY => cases hy)⟩
          | false => subst hv; exact ⟨Z, hr, z2 c⟩
      · cases h
  · cases h

theorem mset_none {k : Int} {v : AV} : ∀ {es : List (Int × AV)} {i : Nat}, mfind k es i = none → mset k v es = es ++ [(k, v)]
  | [], _, _ => rfl
  | e :: r, i, h => by
    unfold mfind at h
    split at h
    · cases h
    · rename_i hk
      simp only [mset, if_neg hk, mset_none h, List.cons_append]
theorem mset_some {k : Int} {v u : AV} : ∀ {es : List (Int × AV)} {i j : Nat}, mfind k es i = some (j, u) → mset k v es = es.set (j - i) (k, v)
  | [], _, _, h => by cases h
  | e :: r, i, j, h => by
    have hj := (mfind_get h).1
    unfold mfind at h
    split at h
    · rename_i hk
      cases h
      simp [mset, hk]
    · rename_i hk
      have h2 := (mfind_get h).1
      rw [show j - i = (j - (i + 1)) + 1 by omega]
      simp only [mset, if_neg hk, mset_some h, List.set_cons_succ]

theorem setObj_map {P : Program} {w : World} {r : Nat} {ms : Array MapEntry} {k : Nat} {o' : Obj} (h : w.heap[r]? = some (.map ms k)) : (setObj r o').run P w = .ok () { w with heap := w.heap.setIfInBounds r o' } := by
  simp [setObj, Sem.run, h]
theorem setObj_iter {P : Program} {w : World} {r n k : Nat} {m : Option Nat} {s : Array Nat} {o' : Obj} (h : w.heap[r]? = some (.mapIter m n s k)) : (setObj r o').run P w = .ok () { w with heap := w.heap.setIfInBounds r o' } := by
  simp [setObj, Sem.run, h]

theorem set_other {w : World} {r b : Nat} {o : Obj} (h : b ≠ r) : (w.heap.setIfInBounds r o)[b]? = w.heap[b]? := Array.getElem?_setIfInBounds_ne (Ne.symm h)

theorem mapUpdate_sound {P : Program} {c : Cx} {H H' : Hp} (s : Sim c H) {t : TypeId} {x k v : AV} {X K V : Value} (hX : Rel c x X) (hK : Rel c k K) (hV : Rel c v V) (h : vmapUpdate P H t x k v = some H') :
    ∃ c', (Instr.mapUpdate t X K V).run P c.w = .ok () c'.w ∧ To c H c' H' := by
  unfold vmapUpdate at h
  split at h
  · rename_i et l n hi
    obtain ⟨kt, u1, u2⟩ := intMap_un hi
    cases hK
    cases hX with
    | mapr _ cl hρ =>
      split at h
      · rename_i es hl
        cases h
        obtain ⟨cl', ms, e1, e2, e3, e4, e5, e6⟩ := s.obj l _ hl
        rw [hρ] at e1
        cases e1
        have hlt : cl.blk < c.w.heap.size := (Array.getElem?_eq_some_iff.1 e2).1
        have hm : MapAt c ms.toList 0 es := ⟨by simpa using e5, fun j e he => by obtain ⟨V, a, b⟩ := e6 j e he; exact ⟨V, by simpa using a, b⟩⟩
        obtain ⟨f1, f2⟩ := find_now (k := n) 0 hm
        have wr : ∀ (ob : Obj) (o' : VO), (Mono c { c with w := { c.w with heap := c.w.heap.setIfInBounds cl.blk ob } } → (({ c.w with heap := c.w.heap.setIfInBounds cl.blk ob } : World).heap[cl.blk]? = some ob) → ObjAt { c with w := { c.w with heap := c.w.heap.setIfInBounds cl.blk ob } } l o') →
            To c H { c with w := { c.w with heap := c.w.heap.setIfInBounds cl.blk ob } } (H.set l o') := fun ob o' ho =>
          To.write s ⟨_, hl, rfl⟩ hρ o' (by simp) (fun b hb => set_other hb) rfl rfl rfl (fun m => ho m (Array.getElem?_setIfInBounds_self_of_lt hlt))
        cases hf : mfind n es 0 with
        | none =>
          have hr : (Instr.mapUpdate t (.map (some cl.blk)) (.int .i64 n) V).run P c.w = .ok () { c.w with heap := c.w.heap.setIfInBounds cl.blk (.map (ms.push ⟨.int .i64 n, V, es.length⟩) (es.length + 1)) } := by
            unfold Instr.mapUpdate
            simp only [Sem.run_bind, run_un u1, Result.andThen, run_getObj_map e2, checkKey_int u2, MapKept.run_findKey u2 (f1 hf), setObj_map e2]
          refine ⟨_, hr, wr _ _ fun m hh => ⟨cl, _, hρ, by rw [mset_none hf]; simpa using hh, e3, e4, by rw [mset_none hf]; simp [e5], fun j e he => ?_⟩⟩
          rw [mset_none hf] at he
          by_cases hj : j < es.length
          · rw [List.getElem?_append_left hj] at he
            obtain ⟨U, a, b⟩ := e6 j e he
            exact ⟨U, by rw [Array.getElem?_push_lt (by omega)]; rw [Array.getElem?_eq_getElem (by omega)] at a; exact a, b.mono m⟩
          · have : j = es.length := by
              have := (List.getElem?_eq_some_iff.1 he).1
              simp at this
              omega
            subst this
            simp at he
            subst he
            exact ⟨V, by rw [Array.getElem?_push, if_pos e5.symm], hV.mono m⟩
        | some p =>
          obtain ⟨j, u⟩ := p
          obtain ⟨U, a, b, q, d⟩ := f2 j u hf
          have hj := mfind_get hf
          simp only [Nat.sub_zero] at d
          have hjl : j < ms.size := by have := (List.getElem?_eq_some_iff.1 d).1; simpa using this
          have hd : ms[j]? = some ⟨.int .i64 n, U, q⟩ := by simpa using d
          have hr : (Instr.mapUpdate t (.map (some cl.blk)) (.int .i64 n) V).run P c.w = .ok () { c.w with heap := c.w.heap.setIfInBounds cl.blk (.map (ms.modify j fun e => { e with key := .int .i64 n, val := V }) es.length) } := by
            unfold Instr.mapUpdate
            simp only [Sem.run_bind, run_un u1, Result.andThen, run_getObj_map e2, checkKey_int u2, MapKept.run_findKey u2 a]
            have hk : (Instr.keyThatStays (((ms[j]?).map (·.key)).getD (.int .i64 n)) (.int .i64 n)).run P c.w = .ok (.int .i64 n) c.w := by
              rw [hd]
              have hs : ∀ m, Instr.sameBits m (.int .i64 n) (.int .i64 n) = true := fun m => by cases m <;> simp [Instr.sameBits]
              simp only [Option.map_some, Option.getD_some, Instr.keyThatStays, hs, if_true]
              rfl
            simp only [hk, Result.andThen, setObj_map e2]
          refine ⟨_, hr, wr _ _ fun m hh => ⟨cl, _, hρ, by rw [mset_some hf]; simpa using hh, e3, e4, by rw [mset_some hf]; simp [e5], fun i e he => ?_⟩⟩
          rw [mset_some hf, Nat.sub_zero] at he
          by_cases hi : i = j
          · subst hi
            rw [List.getElem?_set_self (by omega)] at he
            cases he
            obtain ⟨n', g1, g2⟩ := hj.2
            rw [Nat.sub_zero] at g1
            obtain ⟨U', a', b'⟩ := e6 i _ g1
            refine ⟨V, ?_, hV.mono m⟩
            rw [hd] at a'
            rw [Array.getElem?_modify, if_pos rfl, hd]
            simp at a' ⊢
            exact a'.2.2
          · rw [List.getElem?_set_ne (Ne.symm hi)] at he
            obtain ⟨U', a', b'⟩ := e6 i e he
            exact ⟨U', by rw [Array.getElem?_modify, if_neg (Ne.symm hi)]; exact a', b'.mono m⟩
      · cases h
  · cases h

theorem range_sound {P : Program} {c : Cx} {H H' : Hp} (s : Sim c H) {t : TypeId} {x v : AV} {X : Value} (hX : Rel c x X) (h : vrange P H t x = some (v, H')) : Yields P c H (Instr.range t X) v H' := by
  unfold vrange at h
  split at h
  · rename_i et l hi
    obtain ⟨kt, u1, u2⟩ := intMap_un hi
    cases hX with
    | mapr _ cl hρ =>
      split at h
      · rename_i es hl
        cases h
        obtain ⟨cl', ms, e1, e2, e3, e4, e5, e6⟩ := s.obj l _ hl
        rw [hρ] at e1
        cases e1
        refine ⟨.pointer (some ⟨c.w.heap.size, 0, none⟩), _, run_range_map c.w t kt et cl.blk ms _ u1 e2, To.new s (.iter l es.length []) _ ⟨c.w.heap.size, 0, 0, 0⟩ rfl fun c' m hρ' hh hI hB => ⟨_, cl, hρ', rfl, m.ρ _ _ hρ, hh, hI, hB⟩, ?_⟩
        have := Rel.ptr (c := { c with w := c.w.alloc (.mapIter (some cl.blk) es.length #[] es.length), ρ := updρ c.ρ H.length ⟨c.w.heap.size, 0, 0, 0⟩ }) H.length 0 0 _ (updρ_self _ _ _)
        simpa using this
      · cases h
  · cases h

theorem iter_at {c : Cx} {H : Hp} (s : Sim c H) {li l n : Nat} {seen : List Nat} {es : List (Int × AV)} {X : Value} (hX : Rel c (.ptr li 0 0) X) (hli : H[li]? = some (.iter l n seen)) (hl : H[l]? = some (.map es)) :
    ∃ cl cm ms, c.ρ li = some cl ∧ c.ρ l = some cm ∧ X = .pointer (some ⟨cl.blk, 0, none⟩) ∧ c.w.heap[cl.blk]? = some (.mapIter (some cm.blk) n seen.toArray n) ∧ c.w.heap[cm.blk]? = some (.map ms es.length) ∧ MapAt c ms.toList 0 es := by
  cases hX with
  | ptr _ _ _ cl hρ =>
    obtain ⟨cl', cm, e1, e2, e3, e4, e5, e6⟩ := s.obj li _ hli
    rw [hρ] at e1
    cases e1
    obtain ⟨cm', ms, g1, g2, g3, g4, g5, g6⟩ := s.obj l _ hl
    rw [e3] at g1
    cases g1
    exact ⟨cl, cm, ms, hρ, e3, by simp [e2], e4, g2, by simpa using g5, fun j e he => by obtain ⟨V, a, b⟩ := g6 j e he; exact ⟨V, by simpa using a, b⟩⟩

theorem born_get {c : Cx} {ms : List MapEntry} {es : List (Int × AV)} (h : MapAt c ms 0 es) {j : Nat} {m : MapEntry} (hm : ms[j]? = some m) : m.born = j ∧ ∃ e V, es[j]? = some e ∧ m = ⟨.int .i64 e.1, V, j⟩ ∧ Rel c e.2 V := by
  have hj : j < es.length := by rw [← h.1]; exact (List.getElem?_eq_some_iff.1 hm).1
  obtain ⟨V, a, b⟩ := h.2 j es[j] (List.getElem?_eq_getElem hj)
  rw [hm] at a
  cases a
  exact ⟨by simp, es[j], V, List.getElem?_eq_getElem hj, by simp, b⟩

theorem entry_sound {P : Program} {c : Cx} {H : Hp} (s : Sim c H) {x v : AV} {X : Value} (hX : Rel c x X) (h : ventry H x = some v) : ∃ V, (Instr.entry X).run P c.w = .ok V c.w ∧ Rel c v V := by
  unfold ventry at h
  split at h
  · rename_i li
    split at h
    · rename_i l n seen hli
      split at h
      · rename_i j es hlast hl
        split at h
        · rename_i hn
          subst hn
          obtain ⟨e, he, hv⟩ := map_some h
          subst hv
          obtain ⟨cl, cm, ms, r1, r2, rfl, h1, h2, hm⟩ := iter_at s hX hli hl
          obtain ⟨V, a, b⟩ := hm.2 j e he
          rw [Nat.zero_add] at a
          have hback : seen.toArray.back? = some j := by simpa using hlast
          have hfind : ms.find? (·.born == j) = some ⟨.int .i64 e.1, V, j⟩ := by
            rw [← Array.find?_toList, List.find?_eq_some_iff_getElem]
            obtain ⟨hj, hje⟩ := List.getElem?_eq_some_iff.1 a
            refine ⟨by simp, j, hj, hje, fun i hi => ?_⟩
            have := (born_get hm (List.getElem?_eq_getElem (show i < ms.toList.length by omega))).1
            simp only [Bool.not_eq_eq_eq_not, Bool.not_true, beq_eq_false_iff_ne]
            omega
          refine ⟨.tuple #[.int .i64 e.1, V], ?_, .tup _ _ rfl (fun i y Y hy hY => by
            match i, hy, hY with
            | 0, hy, hY => cases hy; cases hY; exact .int _ _
            | 1, hy, hY => cases hy; cases hY; exact b
            | i + 2, hy, hY => cases hy)⟩
          have g1 : (getObj cl.blk).run P c.w = .ok (.mapIter (some cm.blk) es.length seen.toArray es.length) c.w := by simp [getObj, Sem.run, h1]
          simp only [Instr.entry, Sem.run_bind, g1, Result.andThen, hback, run_getObj_map h2, bne_self_eq_false, Bool.false_eq_true, if_false, hfind, Sem.run_pure]
        · cases h
      · cases h
    · cases h
  · cases h

theorem next_sound {P : Program} {c : Cx} {H : Hp} (s : Sim c H) {ty : TypeId} {x : AV} {X : Value} {k : AV → Hp → Prop} (hX : Rel c x X) (h : vnext H x k) :
    ∃ V v c' H', (Instr.next X false ty).run P c.w = .ok V c'.w ∧ To c H c' H' ∧ Rel c' v V ∧ k v H' := by
  unfold vnext at h
  split at h
  · rename_i li
    split at h
    · rename_i l n seen hli
      split at h
      · rename_i es hl
        obtain ⟨hn, hk0, hk1⟩ := h
        subst hn
        obtain ⟨cl, cm, ms, r1, r2, rfl, h1, h2, hm⟩ := iter_at s hX hli hl
        have hlt : cl.blk < c.w.heap.size := (Array.getElem?_eq_some_iff.1 h1).1
        have hold : ∀ x ∈ ms.toList, x.born < es.length := fun x hx => by
          obtain ⟨j, hj⟩ := List.mem_iff_getElem?.1 hx
          have := (born_get hm hj).1
          have hj2 := (List.getElem?_eq_some_iff.1 hj).1
          rw [hm.1] at hj2
          omega
        have g1 : (getObj cl.blk).run P c.w = .ok (.mapIter (some cm.blk) es.length seen.toArray es.length) c.w := by simp [getObj, Sem.run, h1]
        have e1 : (ms.filter fun e => !seen.toArray.contains e.born).filter (fun x => decide (x.born < es.length)) = ms.filter fun e => !seen.toArray.contains e.born := Array.filter_eq_self.2 (fun x hx => by
          have := hold x (by simp at hx ⊢; exact hx.1)
          simpa using this)
        have e2 : (ms.filter fun e => !seen.toArray.contains e.born).filter (fun x => decide (x.born ≥ es.length)) = #[] := by
          rw [Array.filter_eq_empty_iff]
          intro x hx
          have := hold x (by simp at hx ⊢; exact hx.1)
          simp
          omega
        simp only [Instr.next, Sem.run_bind, g1, Result.andThen, run_getObj_map h2, next_test_false seen.toArray ms es.length es.length hold (Nat.le_refl _), Bool.false_eq_true, if_false, e1, e2, Array.append_empty]
        have hmem : ∀ x ∈ (ms.filter fun e => !seen.toArray.contains e.born).toList, ∃ j e V, es[j]? = some e ∧ x = ⟨.int .i64 e.1, V, j⟩ ∧ Rel c e.2 V ∧ j ∉ seen := fun x hx => by
          simp only [Array.toList_filter, List.mem_filter] at hx
          obtain ⟨hx1, hx2⟩ := hx
          obtain ⟨j, hj⟩ := List.mem_iff_getElem?.1 hx1
          obtain ⟨b1, e, V, b2, b3, b4⟩ := born_get hm hj
          refine ⟨j, e, V, b2, b3, b4, fun hc => ?_⟩
          rw [b1] at hx2
          simp [hc] at hx2
        by_cases h0 : (ms.filter fun e => !seen.toArray.contains e.born).size = 0
        · have hE : (ms.filter fun e => !seen.toArray.contains e.born) = #[] := Array.eq_empty_of_size_eq_zero h0
          refine ⟨.tuple #[.bool false], .tup [.bool false], c, H, ?_, To.refl s, .tup _ _ rfl (fun i y Y hy hY => by
            match i, hy, hY with
            | 0, hy, hY => cases hy; cases hY; exact .bool _
            | i + 1, hy, hY => cases hy), hk0 fun j hj => ?_⟩
          · rw [hE]
            simp [choose, Sem.run, Question.forced]
          · rw [Array.filter_eq_empty_iff] at hE
            have hj2 : j < ms.toList.length := by rw [hm.1]; exact hj
            have := hE ms.toList[j] (by simp)
            rw [(born_get hm (List.getElem?_eq_getElem hj2)).1] at this
            simpa using this
        · have hne : (ms.filter fun e => !seen.toArray.contains e.born).isEmpty = false := by
            generalize (ms.filter fun e => !seen.toArray.contains e.born) = L at h0 ⊢
            simp [Array.isEmpty, h0]
          generalize hL : (ms.filter fun e => !seen.toArray.contains e.born) = L at h0 hne hmem
          simp only [hne, Bool.false_eq_true, if_false, Array.empty_append, Array.size_map]
          have hch : ∃ (j : Nat) (w1 : World), j < L.size ∧ w1.heap = c.w.heap ∧ w1.os = c.w.os ∧ w1.tape = c.w.tape ∧ w1.output = c.w.output ∧ (choose (Question.mapNext L.size)).run P c.w = .ok j w1 := by
            by_cases hf : L.size ≤ 1
            · exact ⟨0, c.w, by omega, rfl, rfl, rfl, rfl, by simp [choose, Sem.run, Question.forced, hf]⟩
            · exact ⟨_, c.w.drew, Nat.mod_lt _ (by omega), rfl, rfl, rfl, rfl, by
                simp only [choose, Sem.run, Question.forced, decide_eq_true_eq, hf, if_false, Question.cut]
                rfl⟩
          obtain ⟨j, w1, hj, q1, q2, q3, q4, hrun⟩ := hch
          obtain ⟨i, e, V, b1, b2, b3, b4⟩ := hmem L[j] (by simp)
          have hob : w1.heap[cl.blk]? = some (.mapIter (some cm.blk) es.length seen.toArray es.length) := by rw [q1]; exact h1
          have t : To c H { c with w := { w1 with heap := w1.heap.setIfInBounds cl.blk (.mapIter (some cm.blk) es.length (seen.toArray.push i) es.length) } } (H.set li (.iter l es.length (seen ++ [i]))) :=
            To.write s ⟨_, hli, rfl⟩ r1 _ (by simp [q1]) (fun b hb => by rw [← q1]; exact set_other hb) q2 q3 q4 (fun m => by
              obtain ⟨cl', cm', x1, x2, x3, x4, x5, x6⟩ := s.obj li _ hli
              rw [r1] at x1
              cases x1
              rw [r2] at x3
              cases x3
              refine ⟨cl, cm, r1, x2, r2, ?_, x5, x6⟩
              have := Array.getElem?_setIfInBounds_self_of_lt (xs := w1.heap) (i := cl.blk) (a := Obj.mapIter (some cm.blk) es.length (seen.toArray.push i) es.length) (by rw [q1]; exact hlt)
              simpa using this)
          refine ⟨.tuple #[.bool true, .int .i64 e.1, V], .tup [.bool true, .int .i64 e.1, e.2], _, _, ?_, t, .tup _ _ rfl (fun i y Y hy hY => by
            match i, hy, hY with
            | 0, hy, hY => cases hy; cases hY; exact .bool _
            | 1, hy, hY => cases hy; cases hY; exact .int _ _
            | 2, hy, hY => cases hy; cases hY; exact b3.mono t.ext.mono
            | i + 3, hy, hY => cases hy), hk1 i e b1 b4⟩
          simp only [hrun, Array.getElem?_map, Array.getElem?_eq_getElem hj, Option.map_some, b2, Sem.run_bind, setObj_iter hob, Result.andThen, Sem.run_pure]
      · exact h.elim
    · exact h.elim
  · exact h.elim
end Go.Vi
