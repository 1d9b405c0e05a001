/- Vi, part Z: single steps on objects that are known by what lies in them. -/
import Derived.Test.YtenfndlbldffgaaDoorViY
set_option autoImplicit false
set_option linter.unusedVariables false
set_option linter.unusedSimpArgs false
namespace Go.Vi

section
variable {P : Program} {G : Glob} {H : Hp}

theorem g_load {t T : TypeId} {l i k sz : Nat} {rows : List (List AV)} {r : List AV} {x : AV} (h1 : H[l]? = some (.arr T sz rows)) (h2 : rows[i]? = some r) (h3 : ldCells P t (r.drop k) = some x) : (vload P H t (.ptr l i k)).map (·, H) = some (x, H) := by
  simp only [vload, h1, h2, h3, Option.map_some]
theorem g_store {t T : TypeId} {l i k sz n : Nat} {rows : List (List AV)} {r cs : List AV} {x : AV} (h1 : H[l]? = some (.arr T sz rows)) (h2 : rows[i]? = some r) (h3 : x.cells = some cs) (h4 : szOf P t = some n) (h5 : cs.length = n ∧ k + n ≤ r.length ∧ n ≠ 0) :
    (vstore P H t (.ptr l i k) x).map (AV.tup [], ·) = some (AV.tup [], H.set l (.arr T sz (rows.set i (setC r k cs)))) := by
  simp only [vstore, h1, h2, h3, h4]
  rw [if_pos h5]
  rfl
theorem g_index {t T e : TypeId} {b : Bool} {l i m sz : Nat} {rows : List (List AV)} {k : IntKind} {n : Int} (he : elemAt P t = some (none, e, sz)) (h1 : H[l]? = some (.arr T sz rows)) (h0 : 0 ≤ n) (hn : n < m) :
    (vindexAddr P H t (.row b l i m) (.int k n)).map (·, H) = some (.ptr l (i + n.toNat) 0, H) := by
  simp only [vindexAddr, he]
  rw [if_pos ⟨h0, hn⟩, h1]
  simp
theorem g_slice {t T e : TypeId} {b : Bool} {l i m sz : Nat} {rows : List (List AV)} {n : Int} (hu : P.underlying t = some (.slice e)) (hs : szOf P e = some sz) (h1 : H[l]? = some (.arr T sz rows)) (h0 : 0 ≤ n) (hn : n ≤ m) :
    (vslice P H t (.row b l i m) (some (.int .i64 n)) none none).map (·, H) = some (.row b l (i + n.toNat) (m - n.toNat), H) := by
  have hb : vbounds m (some (.int .i64 n)) none none = some (n.toNat, m, none) := by
    simp only [vbounds, bnd]
    have h1 : 0 ≤ n := h0
    have h2 : n.toNat ≤ m := by omega
    simp [h1, h2]
  simp only [vslice, hu, hs, hb, h1]
  simp [cutT]
theorem g_copy {t T e : TypeId} {b : Bool} {l i m sz : Nat} {rows rows' : List (List AV)} {x : AV} (he : elemAt P t = some (none, e, sz)) (h1 : H[l]? = some (.arr T sz rows)) (hx : srcRows H x = some rows') (hl : lenOk sz rows' = true) (h0 : sz ≠ 0) (hs : x.isStr = false) (hin : i + m ≤ rows.length) :
    vcopy P H t (.row b l i m) x = some (.int .i64 (min rows'.length m : Nat), H.set l (.arr T sz (rows.take i ++ rows'.take (min rows'.length m) ++ rows.drop (i + min rows'.length m)))) := by
  simp only [vcopy, he, hx]
  rw [if_pos ⟨hl, h0, by simp [hs]⟩]
  simp only [h1]
  rw [if_pos (by simp; exact hin)]
/-- Appending to a slice that has no room. -/
theorem g_clone {t t2 e : TypeId} {sz by_ : Nat} {d2 : TypeDesc} {zc : List AV} {x : AV} {rows : List (List AV)} (he : elemAt P t = some (none, e, sz)) (hu : P.underlying t2 = some d2) (hd : isInt d2 = false) (hz : zcOf P e = some zc) (hb : byOf P e = some by_)
    (hx : srcRows H x = some rows) (hl : zc.length = sz) (h0 : sz ≠ 0) (hb0 : by_ ≠ 0) (hlo : lenOk sz rows = true) (hs : x.isStr = false) (hne : rows ≠ []) (hv : frzRows H rows = some (H, rows)) (hsz : rows.length * by_ ≤ 140737488355328) :
    vappend P H t t2 (.list .tight []) x = some (.row false H.length 0 rows.length, H ++ [.arr e sz rows]) := by
  have hn0 : ¬ rows.length = 0 := by simpa using hne
  unfold vappend vappendF
  simp only [he, hu, hd, hz, hb, hx, Bool.false_eq_true, if_false]
  rw [if_pos ⟨hl, h0, hb0, hlo, by simp [hs], rfl⟩, if_neg hn0, hv]
  simp only
  rw [if_pos ⟨by simp [lenOk], by simpa using hsz⟩]
  simp

theorem xs_body {f : Nat} {fn : Func} {code : Code} {args : List AV} {K : AV → Hp → Prop} (md : Oper → Md) (hf : P.funcs[f]? = some fn) (hb : fn.body = some code)
    (h : vc P G md H.length code (fnQ P fn K) (args ++ List.replicate (fn.ntmps - args.length) .undef) H) : XS P G f args H K :=
  (XS.pre P G).body f fn code md args H _ hf hb h

variable {md : Oper → Md} {nb : Nat} {Q : Qv} {env : List AV} {ops : Array Oper} {r : List Oper} {K : List AV → Hp → Prop}

/-- A call on this side's objects. -/
theorem w_callS {d : Tmp} {ty : TypeId} {pos : String} {aft : Array Edge} {f : Operand} {args : Array Operand} {ts : Array TypeId} {gd : Option (Nat × Bool)} {g : Nat} {cs xs : List AV} {R : AV → Hp → Prop} (hg : wantedV gd ops env = some true) (hf : ev G env f = some (.clo g cs)) (hx : evL (ev G env) args.toList = some xs) (he : enterOk P g = true)
    (hm : md ⟨some d, .call ⟨.value f, args, ts⟩, ty, pos, aft, gd⟩ = .shr) (hF : XS P G g (xs ++ cs) H R)
    (h : ∀ v H1, R v H1 → vops P G md ops r (env.set d v) H1 K) : vops P G md ops (⟨some d, .call ⟨.value f, args, ts⟩, ty, pos, aft, gd⟩ :: r) env H K := by
  refine vo_call hg rfl hf hx he ?_
  rw [hm]
  exact XS.mono hF h
theorem d_callS {d : Tmp} {ty : TypeId} {pos : String} {aft : Array Edge} {f : Operand} {args : Array Operand} {ts : Array TypeId} {gd : Option (Nat × Bool)} {g : Nat} {cs xs : List AV} {v : AV} {H1 : Hp} (hg : wantedV gd ops env = some true) (hf : ev G env f = some (.clo g cs)) (hx : evL (ev G env) args.toList = some xs) (he : enterOk P g = true)
    (hm : md ⟨some d, .call ⟨.value f, args, ts⟩, ty, pos, aft, gd⟩ = .shr) (hF : XS P G g (xs ++ cs) H fun v' H' => v' = v ∧ H' = H1)
    (h : vopsD P G md ops r (env.set d v) H1 K) : vopsD P G md ops (⟨some d, .call ⟨.value f, args, ts⟩, ty, pos, aft, gd⟩ :: r) env H K := by
  have hop : vop (XS P G) P md G env H ⟨some d, .call ⟨.value f, args, ts⟩, ty, pos, aft, gd⟩ fun v1 H' => v1 = v ∧ H' = H1 := by
    simp only [vop, hf, hx, he, if_true]
    rw [hm]
    exact hF
  simp only [vopsD, hg]
  have hc : clsOp md ⟨some d, .call ⟨.value f, args, ts⟩, ty, pos, aft, gd⟩ = 2 := by
    simp [clsOp, hm]
  rw [if_pos hc]
  exact ⟨v, H1, hop, h⟩

/-- A loop whose objects are given, none left behind. -/
theorem vc_loopX {α : Type} {c : Code} (f : α → List (Option AV)) (Hf : α → Hp) (μ : α → Nat) (a0 : α) (h0 : Wk env (updL env (f a0))) (hH : H = Hf a0)
    (step : ∀ (a : α) (Y : List AV → Hp → Prop), (∀ a', μ a' < μ a → ∀ env' H', Wk env' (updL env (f a')) → H' = Hf a' → Y env' H') → vc P G md nb c (thenQ Y Q) (updL env (f a)) (Hf a)) : vc P G md nb (.loop c) Q env H := by
  intro Y hY hw _ _
  have key : ∀ (n : Nat) (a : α), μ a = n → Y (updL env (f a)) (Hf a) := by
    intro n
    induction n using Nat.strongRecOn with
    | _ n ih =>
      intro a ha
      refine hY _ _ (step a Y fun a' hlt env' H' hwk hH' => ?_)
      subst hH'
      exact hw _ _ _ hwk (ih (μ a') (by omega) a' rfl)
  subst hH
  exact hw _ _ _ h0 (key _ a0 rfl)

theorem get_app {g : Hp} {l : Nat} {o : VO} (h : H[l]? = some o) : (H ++ g)[l]? = some o := by
  rw [List.getElem?_append_left (List.getElem?_eq_some_iff.1 h).1]; exact h
theorem get_last {o : VO} : (H ++ [o])[H.length]? = some o := by simp
theorem set_last {o o' : VO} : (H ++ [o]).set H.length o' = H ++ [o'] := by simp
theorem get_set {l l' : Nat} {o o' : VO} (h : H[l]? = some o) (hne : l' ≠ l) : (H.set l' o')[l]? = some o := by
  rw [List.getElem?_set_ne hne]; exact h
theorem get_self {l : Nat} {o o' : VO} (h : H[l]? = some o) : (H.set l o')[l]? = some o' := by
  rw [List.getElem?_set_self (List.getElem?_eq_some_iff.1 h).1]

theorem g_alloc {t : TypeId} {z : AV} {cs : List AV} {n : Nat} (hz : zrOf P t = some z) (hc : z.cells = some cs) (hn : H.length = n) : valloc P H t = some (.ptr n 0 0, H ++ [.arr t cs.length [cs]]) := by
  subst hn
  simp only [valloc, hz, Option.bind_some, vbox, hc]
theorem g_index0 {t T e : TypeId} {b : Bool} {l m sz : Nat} {rows : List (List AV)} {k : IntKind} {n : Int} (he : elemAt P t = some (none, e, sz)) (h1 : H[l]? = some (.arr T sz rows)) (h0 : 0 ≤ n) (hn : n < m) :
    (vindexAddr P H t (.row b l 0 m) (.int k n)).map (·, H) = some (.ptr l n.toNat 0, H) := by
  rw [g_index he h1 h0 hn, Nat.zero_add]
theorem g_list {t : TypeId} {e : TypeId} {sz : Nat} {k : IntKind} {n : Int} {tg : Tg} {rows : List (List AV)} {r0 : List AV} (he : elemAt P t = some (none, e, sz)) (h0 : 0 ≤ n) (hr : rows[n.toNat]? = some r0) (hs : r0.length = sz) : (vindexAddr P H t (.list tg rows) (.int k n)).map (·, H) = some (.iptr (tg == .bor) r0, H) := by
  have hl := (List.getElem?_eq_some_iff.1 hr).1
  unfold vindexAddr
  rw [he]
  simp only
  rw [if_pos ⟨h0, by omega⟩, hr]
  simp only
  rw [if_pos hs]
  rfl

/-! ### Regions whose order is drawn, with their objects' states told ahead -/
def vopsW (P : Program) (G : Glob) (md : Oper → Md) (ops : Array Oper) (wn : Nat → Nat × Nat) (h : Nat → Hp) : Nat → List Oper → List AV → Nat → (List AV → Nat → Prop) → Prop
  | _, [], env, k, K => K env k
  | i, o :: r, env, k, K => match wantedV o.guard ops env with
    | some true => if clsOp md o = 2 then k = (wn i).1 ∧ ∃ v, vop (XS P G) P md G env (h k) o (fun v1 H1 => v1 = v ∧ H1 = h (k + 1)) ∧ vopsW P G md ops wn h (i + 1) r (putE env o.dst v) (k + 1) K
      else ((wn i).1 ≤ k ∧ k ≤ (wn i).2) ∧ ∃ v, (∀ q, (wn i).1 ≤ q → q ≤ (wn i).2 → vop (XS P G) P md G env (h q) o (fun v1 H1 => v1 = v ∧ H1 = h q)) ∧ vopsW P G md ops wn h (i + 1) r (putE env o.dst v) k K
    | some false => if clsOp md o = 2 then k = (wn i).1 ∧ h (k + 1) = h k ∧ vopsW P G md ops wn h (i + 1) r (putE env o.dst (.tup [])) (k + 1) K
      else ((wn i).1 ≤ k ∧ k ≤ (wn i).2) ∧ vopsW P G md ops wn h (i + 1) r (putE env o.dst (.tup [])) k K
    | none => False

theorem vopsW_seq {wn : Nat → Nat × Nat} {h : Nat → Hp} {KK : List AV → Nat → Prop} : ∀ (n : Nat) (i : Nat) (env : List AV) (k : Nat), i + n = ops.size → vopsW P G md ops wn h i (ops.toList.drop i) env k KK → vseqW (XS P G) P md G ops wn h (List.range' i n) env k KK
  | 0, i, env, k, hn, hh => by
    rw [List.drop_of_length_le (by simp; omega)] at hh
    exact hh
  | n + 1, i, env, k, hn, hh => by
    have hi : i < ops.size := by omega
    rw [List.drop_eq_getElem_cons (by simpa using hi)] at hh
    simp only [vopsW, Array.getElem_toList] at hh
    simp only [List.range'_succ, vseqW, Array.getElem?_eq_getElem hi]
    split at hh
    · rename_i hw
      rw [hw]
      simp only
      split at hh
      · rename_i hc
        rw [if_pos hc]
        obtain ⟨h0, v, h1, h2⟩ := hh
        exact ⟨h0, v, h1, vopsW_seq n (i + 1) _ _ (by omega) h2⟩
      · rename_i hc
        rw [if_neg hc]
        obtain ⟨h0, v, h1, h2⟩ := hh
        exact ⟨h0, v, h1, vopsW_seq n (i + 1) _ _ (by omega) h2⟩
    · rename_i hw
      rw [hw]
      simp only
      split at hh
      · rename_i hc
        rw [if_pos hc]
        obtain ⟨h0, h1, h2⟩ := hh
        exact ⟨h0, h1, vopsW_seq n (i + 1) _ _ (by omega) h2⟩
      · rename_i hc
        rw [if_neg hc]
        obtain ⟨h0, h2⟩ := hh
        exact ⟨h0, vopsW_seq n (i + 1) _ _ (by omega) h2⟩
    · exact hh.elim

def hAt (H : Hp) (hs : List Hp) (q : Nat) : Hp := (H :: hs).getD q []
theorem w_regionW {id : Nat} {l : List Oper} (hs : List Hp) (hd : drawOkOf (okW md l.toArray (winOf md l.toArray)) l.toArray = true)
    (h : vopsW P G md l.toArray (winOf md l.toArray) (hAt H hs) 0 l env 0 fun env' k => Q .normal env' (hAt H hs k)) : vc P G md nb (.region id l.toArray true) Q env H := by
  refine .inr ⟨hd, hs, ?_⟩
  have := vopsW_seq (P := P) (G := G) (md := md) (ops := l.toArray) l.length 0 env 0 (by simp) h
  rw [← List.range_eq_range'] at this
  exact this

variable {wn : Nat → Nat × Nat} {hh : Nat → Hp} {i k : Nat} {KK : List AV → Nat → Prop}
theorem e_op {d : Tmp} {op : Op} {ty : TypeId} {pos : String} {aft : Array Edge} {g : Option (Nat × Bool)} {v : AV} {env' : List AV} {a b : Nat} (hg : wantedV g ops env = some true) (hc : clsOp md ⟨some d, op, ty, pos, aft, g⟩ ≠ 2) (hw : wn i = (a, b)) (hk : a ≤ k ∧ k ≤ b)
    (ho : ∀ H k, (match vexec2 P md (ev G env) H ⟨some d, op, ty, pos, aft, g⟩ with | some (r, H') => k r H' | none => False) → vop (XS P G) P md G env H ⟨some d, op, ty, pos, aft, g⟩ k)
    (hx : ∀ q, a ≤ q → q ≤ b → vexec2 P md (ev G env) (hh q) ⟨some d, op, ty, pos, aft, g⟩ = some (v, hh q)) (he : env.set d v = env')
    (h : vopsW P G md ops wn hh (i + 1) r env' k KK) : vopsW P G md ops wn hh i (⟨some d, op, ty, pos, aft, g⟩ :: r) env k KK := by
  subst he
  simp only [vopsW, hg]
  rw [if_neg hc, hw]
  refine ⟨hk, v, fun q h1 h2 => ho _ _ ?_, h⟩
  rw [hx q h1 h2]
  exact ⟨rfl, rfl⟩
theorem e_eff {d : Tmp} {op : Op} {ty : TypeId} {pos : String} {aft : Array Edge} {g : Option (Nat × Bool)} {v : AV} {env' : List AV} {H0 H1 : Hp} {b : Nat} (hg : wantedV g ops env = some true) (hc : clsOp md ⟨some d, op, ty, pos, aft, g⟩ = 2) (hw : wn i = (k, b)) (h0 : hh k = H0) (h1 : hh (k + 1) = H1)
    (ho : ∀ H k, (match vexec2 P md (ev G env) H ⟨some d, op, ty, pos, aft, g⟩ with | some (r, H') => k r H' | none => False) → vop (XS P G) P md G env H ⟨some d, op, ty, pos, aft, g⟩ k)
    (hx : vexec2 P md (ev G env) H0 ⟨some d, op, ty, pos, aft, g⟩ = some (v, H1)) (he : env.set d v = env')
    (h : vopsW P G md ops wn hh (i + 1) r env' (k + 1) KK) : vopsW P G md ops wn hh i (⟨some d, op, ty, pos, aft, g⟩ :: r) env k KK := by
  subst he
  subst h0
  subst h1
  simp only [vopsW, hg]
  rw [if_pos hc, hw]
  refine ⟨rfl, v, ho _ _ ?_, h⟩
  rw [hx]
  exact ⟨rfl, rfl⟩
theorem e_eff0 {op : Op} {ty : TypeId} {pos : String} {aft : Array Edge} {g : Option (Nat × Bool)} {v : AV} {H0 H1 : Hp} {b : Nat} (hg : wantedV g ops env = some true) (hc : clsOp md ⟨none, op, ty, pos, aft, g⟩ = 2) (hw : wn i = (k, b)) (h0 : hh k = H0) (h1 : hh (k + 1) = H1)
    (ho : ∀ H k, (match vexec2 P md (ev G env) H ⟨none, op, ty, pos, aft, g⟩ with | some (r, H') => k r H' | none => False) → vop (XS P G) P md G env H ⟨none, op, ty, pos, aft, g⟩ k)
    (hx : vexec2 P md (ev G env) H0 ⟨none, op, ty, pos, aft, g⟩ = some (v, H1))
    (h : vopsW P G md ops wn hh (i + 1) r env (k + 1) KK) : vopsW P G md ops wn hh i (⟨none, op, ty, pos, aft, g⟩ :: r) env k KK := by
  subst h0
  subst h1
  simp only [vopsW, hg]
  rw [if_pos hc, hw]
  refine ⟨rfl, v, ho _ _ ?_, h⟩
  rw [hx]
  exact ⟨rfl, rfl⟩
theorem e_callS {d : Tmp} {ty : TypeId} {pos : String} {aft : Array Edge} {f : Operand} {args : Array Operand} {ts : Array TypeId} {gd : Option (Nat × Bool)} {g : Nat} {cs xs : List AV} {v : AV} {env' : List AV} {H0 H1 : Hp} {b : Nat} (hg : wantedV gd ops env = some true) (hf : ev G env f = some (.clo g cs)) (hx : evL (ev G env) args.toList = some xs) (he : enterOk P g = true)
    (hm : md ⟨some d, .call ⟨.value f, args, ts⟩, ty, pos, aft, gd⟩ = .shr) (hw : wn i = (k, b)) (h0 : hh k = H0) (h1 : hh (k + 1) = H1) (hF : XS P G g (xs ++ cs) H0 fun v' H' => v' = v ∧ H' = H1) (hE : env.set d v = env')
    (h : vopsW P G md ops wn hh (i + 1) r env' (k + 1) KK) : vopsW P G md ops wn hh i (⟨some d, .call ⟨.value f, args, ts⟩, ty, pos, aft, gd⟩ :: r) env k KK := by
  subst h0
  subst h1
  subst hE
  have hop : vop (XS P G) P md G env (hh k) ⟨some d, .call ⟨.value f, args, ts⟩, ty, pos, aft, gd⟩ fun v1 H' => v1 = v ∧ H' = hh (k + 1) := by
    simp only [vop, hf, hx, he, if_true]
    rw [hm]
    exact hF
  simp only [vopsW, hg]
  have hc : clsOp md ⟨some d, .call ⟨.value f, args, ts⟩, ty, pos, aft, gd⟩ = 2 := by
    simp [clsOp, hm]
  rw [if_pos hc, hw]
  exact ⟨rfl, v, hop, h⟩
theorem d_norm2 {env' : List AV} (he : env = env') (h : vopsW P G md ops wn hh i r env' k KK) : vopsW P G md ops wn hh i r env k KK := by subst he; exact h
theorem e_end {K' : List AV → Hp → Prop} {H' : Hp} {hs : List Hp} (hH : hAt H hs k = H') (h : K' env H') : vopsW P G md ops wn (hAt H hs) i [] env k fun env' k => thenQ K' Q .normal env' (hAt H hs k) := by
  subst hH
  exact h
theorem e_endB {id : Nat} {H' : Hp} {hs : List Hp} (hH : hAt H hs k = H') (h : Q .normal env H') : vopsW P G md ops wn (hAt H hs) i [] env k fun env' k => blockQ id Q .normal env' (hAt H hs k) := by
  subst hH
  exact h

theorem vres_cell {fn : Func} {a : Tmp} {t : TypeId} {p x : AV} (hr : fn.results = #[.cell a t]) (hp : env[a]? = some p) (hx : vload P H t p = some x) : vres P H fn env = some x := by
  simp only [vres, hr, vresL, hp, hx]
theorem vres_cell_tmp {fn : Func} {a b : Tmp} {t : TypeId} {p x y : AV} (hr : fn.results = #[.cell a t, .tmp b]) (hp : env[a]? = some p) (hx : vload P H t p = some x) (hy : env[b]? = some y) : vres P H fn env = some (.tup [x, y]) := by
  simp only [vres, hr, vresL, hp, hx, hy]
theorem g_vload {t T : TypeId} {l i k sz : Nat} {rows : List (List AV)} {r : List AV} {x : AV} (h1 : H[l]? = some (.arr T sz rows)) (h2 : rows[i]? = some r) (h3 : ldCells P t (r.drop k) = some x) : vload P H t (.ptr l i k) = some x := by
  simp only [vload, h1, h2, h3]

theorem accR {L n : Nat} {pgs news : List (List AV)} {t t2 e : TypeId} {sz by_ : Nat} {d2 : TypeDesc} {zc : List AV} {x : AV} (hL : (pgs = [] ∧ H.length ≤ L) ∨ (pgs ≠ [] ∧ H[L]? = some (.arr e sz pgs))) (hn : H.length = n) (he : elemAt P t = some (none, e, sz)) (hu : P.underlying t2 = some d2) (hd : isInt d2 = false) (hz : zcOf P e = some zc) (hb : byOf P e = some by_)
    (hx : srcRows H x = some news) (hl : zc.length = sz) (h0 : sz ≠ 0) (hb0 : by_ ≠ 0) (hlo : lenOk sz news = true) (hs : x.isStr = false) (hne : news ≠ []) (hsz : (pgs.length + news.length) * by_ ≤ 140737488355328) :
    vappendR P H t t2 (pval L pgs) x = some (.row false n 0 (pgs.length + news.length), H.set L .dead ++ [.arr e sz (pgs ++ news)]) := by
  subst hn
  have hn0 : ¬ news.length = 0 := by simpa using hne
  unfold vappendR vappendF
  simp only [he, hu, hd, hz, hb, hx, Bool.false_eq_true, if_false]
  rw [if_pos ⟨hl, h0, hb0, hlo, by simp [hs], by unfold pval; split <;> rfl⟩, if_neg hn0]
  rcases hL with ⟨rfl, hL⟩ | ⟨hp, hL⟩
  · simp only [pval, if_true]
    rw [if_pos (by simpa using hsz), List.set_eq_of_length_le hL]
    simp
  · simp only [pval, if_neg hp, hL]
    rw [if_pos (by refine ⟨?_, ?_, ?_⟩ <;> first | trivial | exact hsz | omega | simp)]
    simp
theorem g_build1 {t e : TypeId} {sz n : Nat} {zc cs : List AV} {x : AV} (he : elemAt P t = some (none, e, sz)) (hz : zcOf P e = some zc) (hl : zc.length = sz ∧ sz ≠ 0 ∧ 1 * sz ≤ 2 ^ 24) (hc : x.cells = some cs) (hs : cs.length = sz) (hn : H.length = n) : vbuildSlice P H t 1 [(0, x)] = some (.row true n 0 1, H ++ [.arr e sz [cs]]) := by
  subst hn
  simp only [vbuildSlice, he, hz]
  rw [if_pos hl]
  simp [vfillRows, hc, hs]
end
end Go.Vi
