/- Vi, part A: abstract values, what they say of the machine's values, what a heap of abstract objects says of the machine's memory. -/
import Derived.WalkKit
section
set_option autoImplicit false
namespace Go.Vi

/-- What is known of a slice's room: none beyond its end; unknown; lent for the time of a call. -/
inductive Tg | tight | loose | bor
  deriving DecidableEq

/-- Abstract values. A row is an element's cells. -/
inductive AV where
  | undef
  | int (k : IntKind) (n : Int)
  | bool (b : Bool)
  | str (s : ByteArray)
  | nilp
  | ptr (l i k : Nat)
  | iptr (bo : Bool) (cs : List AV)
  | nils
  | list (t : Tg) (rows : List (List AV))
  | row (t : Bool) (l i n : Nat)
  | sub (l i k es n : Nat)
  | agg (cs : List AV)
  | tup (vs : List AV)
  | clo (f : Nat) (caps : List AV)
  | nilf
  | nilm
  | mapr (l : Nat)
  | iface (t : Nat) (v : AV)
  | nili
  | meth (name : String) (t : Nat) (v : AV)
  deriving Inhabited

/-- Abstract objects: rows that may be written, rows that no one writes any more, maps, none. -/
inductive VO where
  | arr (T : TypeId) (sz : Nat) (rows : List (List AV))
  | frz (sz : Nat) (rows : List (List AV))
  | map (es : List (Int × AV))
  | iter (m n : Nat) (seen : List Nat)
  | one (T : TypeId) (cs : List AV)
  | dead

abbrev Hp := List VO

/-- Where an object lies: block, first cell, cells of a row, cells of the block. -/
structure CL where
  blk : Nat
  base : Nat
  sz : Nat
  lim : Nat

/-- The machine's side: the world, the blocks that stay as they are for ever, those that stay as they are for the time of the call, where objects lie. -/
structure Cx where
  w : World
  I : Nat → Prop
  B : Nat → Prop
  ρ : Nat → Option CL

/-- A cell's value that bears no reference to an object that may change. -/
def AV.isVal : AV → Bool
  | .int .. | .bool _ | .str _ | .nilp | .nils | .iptr false _ | .nilf | .nilm | .nili => true
  | .list t _ => t != .bor
  | .clo _ [] => true
  | _ => false

/-- The same, or lent. -/
def AV.isLent : AV → Bool
  | .iptr _ _ | .list _ _ => true
  | v => v.isVal

def AV.isLeaf : AV → Bool
  | .agg _ | .tup _ | .undef => false
  | _ => true

def allVal (rows : List (List AV)) : Bool := rows.all fun r => r.all AV.isVal

def Tg.In (t : Tg) (c : Cx) (b : Nat) : Prop := match t with | .bor => c.B b | _ => c.I b

/-- What an abstract value says of the machine's. -/
inductive Rel (c : Cx) : AV → Value → Prop where
  | undef (V : Value) : Rel c .undef V
  | int (k : IntKind) (n : Int) : Rel c (.int k n) (.int k n)
  | bool (b : Bool) : Rel c (.bool b) (.bool b)
  | str (s : ByteArray) : Rel c (.str s) (.string s)
  | nilp : Rel c .nilp (.pointer none)
  | ptr (l i k : Nat) (cl : CL) (h : c.ρ l = some cl) : Rel c (.ptr l i k) (.pointer (some ⟨cl.blk, cl.base + i * cl.sz + k, none⟩))
  | iptr (bo : Bool) (cs : List AV) (b o : Nat) (F : Nat → Value) (hb : cs = [] ∨ if bo = true then c.B b else c.I b)
      (hv : ∀ x ∈ cs, x.isVal = true)
      (h1 : ∀ j, j < cs.length → c.w.cell? ⟨b, o + j, none⟩ = some (F j) ∧ (F j).oneCell' = true)
      (h2 : ∀ j x, cs[j]? = some x → Rel c x (F j)) : Rel c (.iptr bo cs) (.pointer (some ⟨b, o, none⟩))
  | nils : Rel c .nils (.slice none 0 0)
  | list (t : Tg) (rows : List (List AV)) (b o sz cap : Nat) (sp : Option Nat) (hsp : rows = [] ∨ sp = none) (F : Nat → Nat → Value) (hb : rows = [] ∨ t.In c b) (hc : rows.length ≤ cap)
      (ht : t = .tight → cap = rows.length) (hsz : ∀ r ∈ rows, r.length = sz) (hv : allVal rows = true)
      (h1 : ∀ i j, i < rows.length → j < sz → c.w.cell? ⟨b, o + i * sz + j, none⟩ = some (F i j) ∧ (F i j).oneCell' = true)
      (h2 : ∀ i r j x, rows[i]? = some r → r[j]? = some x → Rel c x (F i j)) : Rel c (.list t rows) (.slice (some ⟨b, o, sp⟩) rows.length cap)
  | row (t : Bool) (l i n : Nat) (cl : CL) (o cap : Nat) (h : c.ρ l = some cl) (ho : o = cl.base + i * cl.sz) (hn : n ≤ cap)
      (ht : t = true → cap = n) (hl : o + cap * cl.sz = cl.lim) : Rel c (.row t l i n) (.slice (some ⟨cl.blk, o, none⟩) n cap)
  | sub (l i k es n : Nat) (cl : CL) (o cap : Nat) (h : c.ρ l = some cl) (ho : o = cl.base + i * cl.sz + k ∨ n = 0) (hn : n ≤ cap) :
      Rel c (.sub l i k es n) (.slice (some ⟨cl.blk, o, none⟩) n cap)
  | agg (cs : List AV) (Vs : Array Value) (hl : cs.length = Vs.size) (h1 : ∀ (j : Nat) (V : Value), Vs[j]? = some V → V.oneCell' = true)
      (h2 : ∀ (j : Nat) (x : AV) (V : Value), cs[j]? = some x → Vs[j]? = some V → Rel c x V) : Rel c (.agg cs) (.agg Vs)
  | tup (cs : List AV) (Vs : Array Value) (hl : cs.length = Vs.size) (h2 : ∀ (j : Nat) (x : AV) (V : Value), cs[j]? = some x → Vs[j]? = some V → Rel c x V) : Rel c (.tup cs) (.tuple Vs)
  | clo (f : Nat) (cs : List AV) (Vs : Array Value) (hl : cs.length = Vs.size) (h2 : ∀ (j : Nat) (x : AV) (V : Value), cs[j]? = some x → Vs[j]? = some V → Rel c x V) :
      Rel c (.clo f cs) (.func (.func f) #[] Vs)
  | nilf : Rel c .nilf .nilFunc
  | nilm : Rel c .nilm (.map none)
  | mapr (l : Nat) (cl : CL) (h : c.ρ l = some cl) : Rel c (.mapr l) (.map (some cl.blk))
  | iface (t : Nat) (v : AV) (V : Value) (h : Rel c v V) : Rel c (.iface t v) (.iface t V)
  | nili : Rel c .nili .nilIface
  | meth (name : String) (t : Nat) (v : AV) (V : Value) (h : Rel c v V) : Rel c (.meth name t v) (.func (.method name) #[.iface t V] #[])

/-- Of the machine's side nothing that abstract values lean on has turned. -/
structure Mono (c c' : Cx) : Prop where
  I : ∀ b, c.I b → c'.I b
  B : ∀ b, c.B b → c'.B b
  ρ : ∀ l cl, c.ρ l = some cl → c'.ρ l = some cl
  heap : ∀ b, c.I b ∨ c.B b → c'.w.heap[b]? = c.w.heap[b]?

theorem Mono.refl (c : Cx) : Mono c c := ⟨fun _ h => h, fun _ h => h, fun _ _ h => h, fun _ _ => rfl⟩
theorem Mono.trans {a b c : Cx} (h : Mono a b) (k : Mono b c) : Mono a c :=
  ⟨fun x hx => k.I x (h.I x hx), fun x hx => k.B x (h.B x hx), fun l cl hl => k.ρ l cl (h.ρ l cl hl),
   fun x hx => (k.heap x (hx.imp (h.I x) (h.B x))).trans (h.heap x hx)⟩

theorem cell_of_block {w w' : World} {b o : Nat} (h : w'.heap[b]? = w.heap[b]?) : w'.cell? ⟨b, o, none⟩ = w.cell? ⟨b, o, none⟩ := by
  simp [World.cell?, h]

theorem Tg.In.mono {c c' : Cx} (m : Mono c c') {t : Tg} {b : Nat} (h : t.In c b) : t.In c' b := by
  cases t with
  | bor => exact m.B b h
  | _ => exact m.I b h
theorem Tg.In.or {c : Cx} {t : Tg} {b : Nat} (h : t.In c b) : c.I b ∨ c.B b := by
  cases t with
  | bor => exact .inr h
  | _ => exact .inl h

theorem Rel.mono {c c' : Cx} (m : Mono c c') {v : AV} {V : Value} (h : Rel c v V) : Rel c' v V := by
  induction h with
  | undef V => exact .undef V
  | int k n => exact .int k n
  | bool b => exact .bool b
  | str s => exact .str s
  | nilp => exact .nilp
  | ptr l i k cl h => exact .ptr l i k cl (m.ρ _ _ h)
  | iptr bo cs b o F hb hv h1 h2 ih =>
    refine .iptr bo cs b o F (hb.imp id fun h => ?_) hv (fun j hj => ?_) ih
    · cases bo
      · exact m.I b h
      · exact m.B b h
    · rcases hb with rfl | hb
      · cases hj
      · have hor : c.I b ∨ c.B b := by cases bo <;> first | exact .inl hb | exact .inr hb
        rw [cell_of_block (m.heap b hor)]
        exact h1 j hj
  | nils => exact .nils
  | list t rows b o sz cap sp hsp F hb hc ht hsz hv h1 h2 ih =>
    refine .list t rows b o sz cap sp hsp F (hb.imp id fun h => h.mono m) hc ht hsz hv (fun i j hi hj => ?_) ih
    rcases hb with rfl | hb
    · cases hi
    · rw [cell_of_block (m.heap b hb.or)]
      exact h1 i j hi hj
  | row t l i n cl o cap h ho hn ht hl => exact .row t l i n cl o cap (m.ρ _ _ h) ho hn ht hl
  | sub l i k es n cl o cap h ho hn => exact .sub l i k es n cl o cap (m.ρ _ _ h) ho hn
  | agg cs Vs hl h1 h2 ih => exact .agg cs Vs hl h1 ih
  | tup cs Vs hl h2 ih => exact .tup cs Vs hl ih
  | clo f cs Vs hl h2 ih => exact .clo f cs Vs hl ih
  | nilf => exact .nilf
  | nilm => exact .nilm
  | mapr l cl h => exact .mapr l cl (m.ρ _ _ h)
  | iface t v V h ih => exact .iface t v V ih
  | meth n t v V h ih => exact .meth n t v V ih
  | nili => exact .nili

/-- Of values without references: nothing but what stays for ever counts. -/
structure MonoI (c c' : Cx) : Prop where
  I : ∀ b, c.I b → c'.I b
  heap : ∀ b, c.I b → c'.w.heap[b]? = c.w.heap[b]?

theorem Rel.val {c c' : Cx} (m : MonoI c c') {v : AV} {V : Value} (h : Rel c v V) (hv : v.isVal = true) : Rel c' v V := by
  induction h with
  | int k n => exact .int k n
  | bool b => exact .bool b
  | str s => exact .str s
  | nilp => exact .nilp
  | iptr bo cs b o F hb hv' h1 h2 ih =>
    cases bo with
    | true => cases hv
    | false =>
      refine .iptr false cs b o F (hb.imp id fun h => m.I b h) hv' (fun j hj => ?_) (fun j x hx => ih j x hx (hv' x (List.mem_of_getElem? hx)))
      rcases hb with rfl | hb
      · cases hj
      · rw [cell_of_block (m.heap b hb)]
        exact h1 j hj
  | nils => exact .nils
  | list t rows b o sz cap sp hsp F hb hc ht hsz hv' h1 h2 ih =>
    have htb : t ≠ .bor := by simpa [AV.isVal] using hv
    have hI : rows = [] ∨ c.I b := hb.imp id fun h => by cases t <;> first | exact h | exact absurd rfl htb
    refine .list t rows b o sz cap sp hsp F (hI.imp id fun h => ?_) hc ht hsz hv' (fun i j hi hj => ?_) (fun i r j x hr hx => ih i r j x hr hx ?_)
    · cases t <;> first | exact m.I b h | exact absurd rfl htb
    · rcases hI with rfl | hI
      · cases hi
      · rw [cell_of_block (m.heap b hI)]
        exact h1 i j hi hj
    · exact List.all_eq_true.1 (List.all_eq_true.1 hv' r (List.mem_of_getElem? hr)) x (List.mem_of_getElem? hx)
  | clo f cs Vs hl h2 ih =>
    cases cs with
    | nil => exact .clo f [] Vs hl (fun j x V hx => by cases hx)
    | cons x r => cases hv
  | nilf => exact .nilf
  | nilm => exact .nilm
  | nili => exact .nili
  | undef V => cases hv
  | ptr l i k cl h => cases hv
  | row t l i n cl o cap h ho hn ht hl => cases hv
  | sub l i k es n cl o cap h ho hn => cases hv
  | agg cs Vs hl h1 h2 ih => cases hv
  | tup cs Vs hl h2 ih => cases hv
  | mapr l cl h => cases hv
  | iface t v V h ih => cases hv
  | meth n t v V h ih => cases hv

/-- Rows of cells as they lie. -/
def RowsAt (c : Cx) (cells : Array Value) (base sz : Nat) (rows : List (List AV)) : Prop :=
  ∀ i r, rows[i]? = some r → r.length = sz ∧ ∀ j x, r[j]? = some x → ∃ V, cells[base + i * sz + j]? = some V ∧ V.oneCell' = true ∧ Rel c x V

theorem RowsAt.mono {c c' : Cx} (m : Mono c c') {cells : Array Value} {base sz : Nat} {rows : List (List AV)} (h : RowsAt c cells base sz rows) : RowsAt c' cells base sz rows :=
  fun i r hr => ⟨(h i r hr).1, fun j x hx => let ⟨V, h1, h2, h3⟩ := (h i r hr).2 j x hx; ⟨V, h1, h2, h3.mono m⟩⟩

def ObjAt (c : Cx) (l : Nat) : VO → Prop
  | .arr T sz rows => ∃ cl cells, c.ρ l = some cl ∧ cl.sz = sz ∧ c.w.heap[cl.blk]? = some (.cells cells T (0, 0)) ∧ cells.size = cl.lim ∧ ¬ c.I cl.blk ∧ ¬ c.B cl.blk ∧ RowsAt c cells cl.base sz rows
  | .frz sz rows => allVal rows = true ∧ ∃ cl cells T fr, c.ρ l = some cl ∧ cl.sz = sz ∧ c.w.heap[cl.blk]? = some (.cells cells T fr) ∧ cells.size = cl.lim ∧ c.I cl.blk ∧ RowsAt c cells cl.base sz rows
  | .one T cs => ∃ cl cells, c.ρ l = some cl ∧ cl.sz = cs.length ∧ c.w.heap[cl.blk]? = some (.cells cells T (0, 0)) ∧ cells.size = cl.lim ∧ ¬ c.I cl.blk ∧ ¬ c.B cl.blk ∧ RowsAt c cells cl.base cs.length [cs] ∧ cl.base = 0 ∧ cl.lim = cs.length
  | .map es => ∃ cl ms, c.ρ l = some cl ∧ c.w.heap[cl.blk]? = some (.map ms es.length) ∧ ¬ c.I cl.blk ∧ ¬ c.B cl.blk ∧ ms.size = es.length ∧
      (∀ (j : Nat) (e : Int × AV), es[j]? = some e → ∃ V, ms[j]? = some ⟨.int .i64 e.1, V, j⟩ ∧ Rel c e.2 V)
  | .iter m n seen => ∃ cl cm, c.ρ l = some cl ∧ cl.base = 0 ∧ c.ρ m = some cm ∧ c.w.heap[cl.blk]? = some (.mapIter (some cm.blk) n seen.toArray n) ∧ ¬ c.I cl.blk ∧ ¬ c.B cl.blk
  | .dead => True

/-- An object that is written: its block is its own. -/
def VO.live : VO → Bool
  | .arr .. | .map _ | .iter .. | .one .. => true
  | _ => false

def live (H : Hp) (l : Nat) : Prop := ∃ o, H[l]? = some o ∧ o.live = true
/-- A block that an object of H owns. -/
def Owned (c : Cx) (H : Hp) (b : Nat) : Prop := ∃ l cl, live H l ∧ c.ρ l = some cl ∧ cl.blk = b

structure Sim (c : Cx) (H : Hp) : Prop where
  bound : ∀ b, c.I b → b < c.w.heap.size
  boundB : ∀ b, c.B b → b < c.w.heap.size
  obj : ∀ l o, H[l]? = some o → ObjAt c l o
  inj : ∀ l l' cl cl', live H l → live H l' → c.ρ l = some cl → c.ρ l' = some cl' → cl.blk = cl'.blk → l = l'
  fresh : ∀ l, H.length ≤ l → c.ρ l = none

/-- What a piece of code from (c, H) to c' leaves alone. -/
structure Ext (c : Cx) (H : Hp) (c' : Cx) : Prop where
  mono : Mono c c'
  size : c.w.heap.size ≤ c'.w.heap.size
  frame : ∀ b, b < c.w.heap.size → ¬ Owned c H b → c'.w.heap[b]? = c.w.heap[b]?
  inew : ∀ b, c'.I b → c.I b ∨ c.w.heap.size ≤ b ∨ Owned c H b
  beq : ∀ b, c'.B b ↔ c.B b
  own : ∀ l cl, c'.ρ l = some cl → c.ρ l = some cl ∨ c.w.heap.size ≤ cl.blk ∨ Owned c H cl.blk
  os : c'.w.os = c.w.os
  tape : c'.w.tape = c.w.tape
  output : c'.w.output = c.w.output

theorem Ext.refl (c : Cx) (H : Hp) : Ext c H c :=
  ⟨Mono.refl c, Nat.le_refl _, fun _ _ _ => rfl, fun _ h => .inl h, fun _ => Iff.rfl, fun _ _ h => .inl h, rfl, rfl, rfl⟩

/-- The owned blocks of a later heap are owned at first, or new. -/
theorem owned_back {c c' : Cx} {H H' : Hp} (e : Ext c H c') (hs : ∀ l, live H' l → l < H.length → live H l) (hf : ∀ l, H.length ≤ l → c.ρ l = none) {b : Nat} (hb : b < c.w.heap.size) (ho : Owned c' H' b) : Owned c H b := by
  obtain ⟨l, cl, hl, hr, rfl⟩ := ho
  rcases e.own l cl hr with h | h | h
  · by_cases hlt : l < H.length
    · exact ⟨l, cl, hs l hl hlt, h, rfl⟩
    · rw [hf l (by omega)] at h; cases h
  · omega
  · exact h
end Go.Vi
end
section
set_option autoImplicit false
namespace Go.Vi

/-- From (c, H) to (c', H'). -/
structure To (c : Cx) (H : Hp) (c' : Cx) (H' : Hp) : Prop where
  ext : Ext c H c'
  sim : Sim c' H'
  len : H.length ≤ H'.length
  liv : ∀ l, l < H.length → live H' l → live H l

theorem To.refl {c : Cx} {H : Hp} (s : Sim c H) : To c H c H := ⟨Ext.refl c H, s, Nat.le_refl _, fun _ _ h => h⟩

theorem Owned.back {c c' : Cx} {H H' : Hp} (s : Sim c H) (t : To c H c' H') {b : Nat} (hb : b < c.w.heap.size) (ho : Owned c' H' b) : Owned c H b :=
  owned_back t.ext (fun l h h' => t.liv l h' h) s.fresh hb ho

theorem To.trans {a b c : Cx} {H1 H2 H3 : Hp} (s : Sim a H1) (h : To a H1 b H2) (k : To b H2 c H3) : To a H1 c H3 := by
  refine ⟨⟨h.ext.mono.trans k.ext.mono, Nat.le_trans h.ext.size k.ext.size, fun x hx hn => ?_, fun x hx => ?_, fun x => (k.ext.beq x).trans (h.ext.beq x), fun l cl hl => ?_,
    k.ext.os.trans h.ext.os, k.ext.tape.trans h.ext.tape, k.ext.output.trans h.ext.output⟩, k.sim, Nat.le_trans h.len k.len, fun l hl hv => h.liv l hl (k.liv l (Nat.lt_of_lt_of_le hl h.len) hv)⟩
  · rw [k.ext.frame x (Nat.lt_of_lt_of_le hx h.ext.size) (fun ho => hn (Owned.back s h hx ho)), h.ext.frame x hx hn]
  · rcases k.ext.inew x hx with h1 | h1 | h1
    · exact h.ext.inew x h1
    · exact .inr (.inl (Nat.le_trans h.ext.size h1))
    · by_cases hlt : x < a.w.heap.size
      · exact .inr (.inr (Owned.back s h hlt h1))
      · exact .inr (.inl (by omega))
  · rcases k.ext.own l cl hl with h1 | h1 | h1
    · exact h.ext.own l cl h1
    · exact .inr (.inl (Nat.le_trans h.ext.size h1))
    · by_cases hlt : cl.blk < a.w.heap.size
      · exact .inr (.inr (Owned.back s h hlt h1))
      · exact .inr (.inl (by omega))

/-- An object that stays, its block's content and the rest being as they were. -/
theorem ObjAt.keep {c c' : Cx} {l : Nat} {o : VO} (m : Mono c c') (hI : ∀ cl, c.ρ l = some cl → o.live = true → (c'.I cl.blk → c.I cl.blk)) (hB : ∀ b, c'.B b → c.B b)
    (hh : ∀ cl, c.ρ l = some cl → o.live = true → c'.w.heap[cl.blk]? = c.w.heap[cl.blk]?) (h : ObjAt c l o) : ObjAt c' l o := by
  cases o with
  | arr T sz rows =>
    obtain ⟨cl, cells, h1, h2, h3, h4, h5, h6, h7⟩ := h
    exact ⟨cl, cells, m.ρ _ _ h1, h2, (hh cl h1 rfl).trans h3, h4, fun hi => h5 (hI cl h1 rfl hi), fun hb => h6 (hB _ hb), h7.mono m⟩
  | frz sz rows =>
    obtain ⟨h0, cl, cells, T, fr, h1, h2, h3, h4, h5, h6⟩ := h
    exact ⟨h0, cl, cells, T, fr, m.ρ _ _ h1, h2, (m.heap _ (.inl h5)).trans h3, h4, m.I _ h5, h6.mono m⟩
  | one T cs =>
    obtain ⟨cl, cells, h1, h2, h3, h4, h5, h6, h7, h8, h9⟩ := h
    exact ⟨cl, cells, m.ρ _ _ h1, h2, (hh cl h1 rfl).trans h3, h4, fun hi => h5 (hI cl h1 rfl hi), fun hb => h6 (hB _ hb), h7.mono m, h8, h9⟩
  | map es =>
    obtain ⟨cl, ms, h1, h2, h3, h4, h5, h6⟩ := h
    exact ⟨cl, ms, m.ρ _ _ h1, (hh cl h1 rfl).trans h2, fun hi => h3 (hI cl h1 rfl hi), fun hb => h4 (hB _ hb), h5, fun j e he => let ⟨V, a, b⟩ := h6 j e he; ⟨V, a, b.mono m⟩⟩
  | iter mm n seen =>
    obtain ⟨cl, cm, h1, h2, h3, h4, h5, h6⟩ := h
    exact ⟨cl, cm, m.ρ _ _ h1, h2, m.ρ _ _ h3, (hh cl h1 rfl).trans h4, fun hi => h5 (hI cl h1 rfl hi), fun hb => h6 (hB _ hb)⟩
  | dead => trivial

theorem live_of {H : Hp} {l : Nat} {o : VO} (h : H[l]? = some o) (ho : o.live = true) : live H l := ⟨o, h, ho⟩

theorem ObjAt.some {c : Cx} {l : Nat} {o : VO} (h : ObjAt c l o) (hl : o.live = true) : ∃ cl, c.ρ l = .some cl ∧ ¬ c.I cl.blk ∧ ¬ c.B cl.blk ∧ ∃ ob, c.w.heap[cl.blk]? = .some ob := by
  cases o with
  | arr T sz rows => obtain ⟨cl, cells, h1, h2, h3, h4, h5, h6, h7⟩ := h; exact ⟨cl, h1, h5, h6, _, h3⟩
  | one T cs => obtain ⟨cl, cells, h1, h2, h3, h4, h5, h6, h7⟩ := h; exact ⟨cl, h1, h5, h6, _, h3⟩
  | frz sz rows => cases hl
  | map es => obtain ⟨cl, ms, h1, h2, h3, h4, h5, h6⟩ := h; exact ⟨cl, h1, h3, h4, _, h2⟩
  | iter m n seen => obtain ⟨cl, cm, h1, h2, h3, h4, h5, h6⟩ := h; exact ⟨cl, h1, h5, h6, _, h4⟩
  | dead => cases hl

theorem Sim.lt {c : Cx} {H : Hp} (s : Sim c H) {l : Nat} {cl : CL} (hl : live H l) (hr : c.ρ l = some cl) : cl.blk < c.w.heap.size := by
  obtain ⟨o, ho, hv⟩ := hl
  obtain ⟨cl', h1, _, _, ob, h2⟩ := (s.obj l o ho).some hv
  rw [hr] at h1
  cases h1
  exact (Array.getElem?_eq_some_iff.1 h2).1

/-- The world has moved where no block stands. -/
theorem To.world {c : Cx} {H : Hp} (s : Sim c H) {w' : World} (hh : w'.heap = c.w.heap) (ho : w'.os = c.w.os) (ht : w'.tape = c.w.tape) (hu : w'.output = c.w.output) :
    To c H { c with w := w' } H := by
  have m : Mono c { c with w := w' } := ⟨fun _ h => h, fun _ h => h, fun _ _ h => h, fun b _ => by rw [hh]⟩
  refine ⟨⟨m, by simp [hh], fun b _ _ => by simp [hh], fun _ h => .inl h, fun _ => Iff.rfl, fun _ _ h => .inl h, ho, ht, hu⟩, ⟨fun b hb => by simp only [hh]; exact s.bound b hb, fun b hb => by simp only [hh]; exact s.boundB b hb, fun l o h => ?_, s.inj, s.fresh⟩, Nat.le_refl _, fun _ _ h => h⟩
  exact (s.obj l o h).keep m (fun _ _ _ h => h) (fun _ h => h) (fun cl _ _ => by simp [hh])

def updρ (ρ : Nat → Option CL) (l : Nat) (cl : CL) : Nat → Option CL := fun l' => if l' = l then some cl else ρ l'

theorem heap_push {w : World} {o : Obj} {b : Nat} (h : b < w.heap.size) : (w.heap.push o)[b]? = w.heap[b]? := by
  rw [Array.getElem?_push, if_neg (by omega)]

/-- A new object, in a block of its own. -/
theorem To.new {c : Cx} {H : Hp} (s : Sim c H) (o : VO) (ob : Obj) (cl : CL) (hb : cl.blk = c.w.heap.size)
    (ho : ∀ c' : Cx, Mono c c' → c'.ρ H.length = some cl → c'.w.heap[cl.blk]? = some ob → ¬ c'.I cl.blk → ¬ c'.B cl.blk → ObjAt c' H.length o) :
    To c H { c with w := c.w.alloc ob, ρ := updρ c.ρ H.length cl } (H ++ [o]) := by
  have hI : ¬ c.I cl.blk := fun h => by have := s.bound _ h; omega
  have hB : ¬ c.B cl.blk := fun h => by have := s.boundB _ h; omega
  have hρ : ∀ l, l < H.length → updρ c.ρ H.length cl l = c.ρ l := fun l h => by simp [updρ]; omega
  have m : Mono c { c with w := c.w.alloc ob, ρ := updρ c.ρ H.length cl } := by
    refine ⟨fun _ h => h, fun _ h => h, fun l cl' h => ?_, fun b h => ?_⟩
    · have : l ≠ H.length := fun e => by rw [e, s.fresh _ (Nat.le_refl _)] at h; cases h
      simp [updρ, this, h]
    · have hlt : b < c.w.heap.size := h.elim (s.bound b) (s.boundB b)
      exact heap_push hlt
  have hlast : (c.w.alloc ob).heap[cl.blk]? = some ob := by
    show (c.w.heap.push ob)[cl.blk]? = _
    rw [hb]
    simp
  have hsize : (c.w.alloc ob).heap.size = c.w.heap.size + 1 := by
    show (c.w.heap.push ob).size = _
    simp
  have lv : ∀ l, l < H.length → live (H ++ [o]) l → live H l := fun l hl ⟨o', h1, h2⟩ => ⟨o', by rwa [List.getElem?_append_left hl] at h1, h2⟩
  refine ⟨⟨m, by simp only [hsize]; omega, fun b hlt _ => heap_push hlt, fun _ h => .inl h, fun _ => Iff.rfl, fun l cl' h => ?_, rfl, rfl, rfl⟩, ⟨fun b h => ?_, fun b h => ?_, fun l o' h => ?_, fun l l' cl1 cl2 h1 h2 h3 h4 h5 => ?_, fun l h => ?_⟩, by simp, lv⟩
  · by_cases e : l = H.length
    · subst e
      simp [updρ] at h
      subst h
      exact .inr (.inl (by omega))
    · simp [updρ, e] at h
      exact .inl h
  · have := s.bound b h; simp only [hsize]; omega
  · have := s.boundB b h; simp only [hsize]; omega
  · by_cases hl : l < H.length
    · rw [List.getElem?_append_left hl] at h
      have h0 := s.obj l o' h
      refine h0.keep m (fun _ _ _ h => h) (fun _ h => h) (fun cl' hr hv => heap_push (s.lt (live_of h hv) hr))
    · have e : l = H.length := by
        have := (List.getElem?_eq_some_iff.1 h).1
        simp at this
        omega
      subst e
      simp at h
      subst h
      exact ho _ m (by simp [updρ]) hlast hI hB
  · have old : ∀ l cl', l < H.length → live (H ++ [o]) l → updρ c.ρ H.length cl l = some cl' → live H l ∧ c.ρ l = some cl' ∧ cl'.blk < c.w.heap.size := fun l cl' hl hv hr => by
      rw [hρ l hl] at hr
      exact ⟨lv l hl hv, hr, s.lt (lv l hl hv) hr⟩
    have new : ∀ l cl', ¬ l < H.length → live (H ++ [o]) l → updρ c.ρ H.length cl l = some cl' → l = H.length ∧ cl' = cl := fun l cl' hl ⟨o', hv, _⟩ hr => by
      have e : l = H.length := by
        have := (List.getElem?_eq_some_iff.1 hv).1
        simp at this
        omega
      subst e
      simp [updρ] at hr
      exact ⟨rfl, hr.symm⟩
    by_cases hl : l < H.length <;> by_cases hl' : l' < H.length
    · obtain ⟨a1, a2, _⟩ := old l cl1 hl h1 h3
      obtain ⟨b1, b2, _⟩ := old l' cl2 hl' h2 h4
      exact s.inj l l' cl1 cl2 a1 b1 a2 b2 h5
    · obtain ⟨_, _, a3⟩ := old l cl1 hl h1 h3
      obtain ⟨_, rfl⟩ := new l' cl2 hl' h2 h4
      omega
    · obtain ⟨_, _, a3⟩ := old l' cl2 hl' h2 h4
      obtain ⟨_, rfl⟩ := new l cl1 hl h1 h3
      omega
    · rw [(new l cl1 hl h1 h3).1, (new l' cl2 hl' h2 h4).1]
  · simp at h
    have e : l ≠ H.length := by omega
    simp [updρ, e]
    exact s.fresh l (by omega)

/-- A block that an object owns is written. -/
theorem To.write {c : Cx} {H : Hp} (s : Sim c H) {l : Nat} {cl : CL} (hl : live H l) (hr : c.ρ l = some cl) (o' : VO) {w' : World} (hsz : w'.heap.size = c.w.heap.size)
    (hh : ∀ b, b ≠ cl.blk → w'.heap[b]? = c.w.heap[b]?) (h1 : w'.os = c.w.os) (h2 : w'.tape = c.w.tape) (h3 : w'.output = c.w.output)
    (ho : Mono c { c with w := w' } → ObjAt { c with w := w' } l o') : To c H { c with w := w' } (H.set l o') := by
  obtain ⟨o, hlo, hv⟩ := hl
  obtain ⟨cl', e1, hI, hB, _⟩ := (s.obj l o hlo).some hv
  rw [hr] at e1
  cases e1
  have hlen : l < H.length := (List.getElem?_eq_some_iff.1 hlo).1
  have m : Mono c { c with w := w' } := ⟨fun _ h => h, fun _ h => h, fun _ _ h => h, fun b h => hh b (fun e => by subst e; exact h.elim hI hB)⟩
  have lv : ∀ k, live (H.set l o') k → live H k := fun k ⟨o2, h, hv2⟩ => by
    by_cases e : k = l
    · subst e
      exact ⟨o, hlo, hv⟩
    · rw [List.getElem?_set_ne (Ne.symm e)] at h
      exact ⟨o2, h, hv2⟩
  refine ⟨⟨m, by simp [hsz], fun b hb hn => hh b (fun e => hn ⟨l, cl, ⟨o, hlo, hv⟩, hr, e.symm⟩), fun _ h => .inl h, fun _ => Iff.rfl, fun _ _ h => .inl h, h1, h2, h3⟩, ⟨fun b hb => ?_, fun b hb => ?_, fun k o2 h => ?_, fun a b c1 c2 ha hb => s.inj a b c1 c2 (lv a ha) (lv b hb), fun k hk => s.fresh k (by simpa using hk)⟩, by simp, fun k _ h => lv k h⟩
  · simp only [hsz]; exact s.bound b hb
  · simp only [hsz]; exact s.boundB b hb
  · by_cases e : k = l
    · subst e
      rw [List.getElem?_set_self hlen] at h
      cases h
      exact ho m
    · rw [List.getElem?_set_ne (Ne.symm e)] at h
      exact (s.obj k o2 h).keep m (fun _ _ _ h => h) (fun _ h => h) (fun cl2 hr2 hv2 => hh _ (fun e2 => e (s.inj k l cl2 cl (live_of h hv2) ⟨o, hlo, hv⟩ hr2 hr e2)))

/-- An object that is written no more. -/
theorem To.freeze {c : Cx} {H : Hp} (s : Sim c H) {T : TypeId} {l sz : Nat} {rows : List (List AV)} (hl : H[l]? = some (.arr T sz rows)) (hv : allVal rows = true) :
    ∃ cl, c.ρ l = some cl ∧ To c H { c with I := fun b => c.I b ∨ b = cl.blk } (H.set l (.frz sz rows)) := by
  obtain ⟨cl, cells, e1, e2, e3, e4, e5, e6, e7⟩ := s.obj l _ hl
  refine ⟨cl, e1, ?_⟩
  have hlen : l < H.length := (List.getElem?_eq_some_iff.1 hl).1
  have m : Mono c { c with I := fun b => c.I b ∨ b = cl.blk } := ⟨fun _ h => .inl h, fun _ h => h, fun _ _ h => h, fun _ _ => rfl⟩
  have lv : ∀ k, live (H.set l (.frz sz rows)) k → k ≠ l ∧ live H k := fun k ⟨o2, h, hv2⟩ => by
    by_cases e : k = l
    · subst e
      rw [List.getElem?_set_self hlen] at h
      cases h
      cases hv2
    · rw [List.getElem?_set_ne (Ne.symm e)] at h
      exact ⟨e, o2, h, hv2⟩
  have hlt : cl.blk < c.w.heap.size := (Array.getElem?_eq_some_iff.1 e3).1
  refine ⟨⟨m, Nat.le_refl _, fun b hb hn => rfl, fun b h => h.elim .inl (fun e => .inr (.inr ⟨l, cl, ⟨_, hl, rfl⟩, e1, e.symm⟩)), fun _ => Iff.rfl, fun _ _ h => .inl h, rfl, rfl, rfl⟩, ⟨fun b hb => ?_, s.boundB, fun k o2 h => ?_, fun a b c1 c2 ha hb => s.inj a b c1 c2 (lv a ha).2 (lv b hb).2, fun k hk => s.fresh k (by simpa using hk)⟩, by simp, fun k _ h => (lv k h).2⟩
  · rcases hb with hb | rfl
    · exact s.bound b hb
    · exact hlt
  · by_cases e : k = l
    · subst e
      rw [List.getElem?_set_self hlen] at h
      cases h
      exact ⟨hv, cl, cells, T, (0, 0), e1, e2, e3, e4, .inr rfl, e7.mono m⟩
    · rw [List.getElem?_set_ne (Ne.symm e)] at h
      refine (s.obj k o2 h).keep m (fun cl2 hr2 hv2 hi => ?_) (fun _ h => h) (fun _ _ _ => rfl)
      rcases hi with hi | hi
      · exact hi
      · exact absurd (s.inj k l cl2 cl (live_of h hv2) ⟨_, hl, rfl⟩ hr2 e1 hi) e
end Go.Vi
end
section
set_option autoImplicit false
namespace Go.Vi

def szOf (P : Program) (t : TypeId) : Option Nat := (P.info? t).map (·.size)
def byOf (P : Program) (t : TypeId) : Option Nat := (P.info? t).map (·.bytes)
def aggOf (P : Program) (t : TypeId) : Option Bool := (P.underlying t).map fun d => match d with | .struct _ | .array _ _ => true | _ => false

def leafOfV : Value → Option AV
  | .int k n => some (.int k n)
  | .bool b => some (.bool b)
  | .string s => some (.str s)
  | .pointer none => some .nilp
  | .slice none 0 0 => some .nils
  | .map none => some .nilm
  | .nilFunc => some .nilf
  | .nilIface => some .nili
  | _ => none
def leavesOfV : List Value → Option (List AV)
  | [] => some []
  | V :: r => match leafOfV V, leavesOfV r with
    | some x, some xs => some (x :: xs)
    | _, _ => none
def ofV : Value → Option AV
  | .agg cs => (leavesOfV cs.toList).map .agg
  | V => leafOfV V
def zrOf (P : Program) (t : TypeId) : Option AV := (P.info? t).bind fun i => i.zero.bind ofV

/-- A value's cells. -/
def AV.cells : AV → Option (List AV)
  | .undef | .tup _ => none
  | .agg cs => some cs
  | v => some [v]

theorem leafOfV_rel {c : Cx} {V : Value} {x : AV} (h : leafOfV V = some x) : Rel c x V ∧ V.oneCell' = true ∧ x.isVal = true ∧ x.isLeaf = true := by
  unfold leafOfV at h
  split at h <;> first | cases h | skip
  · exact ⟨.int _ _, rfl, rfl, rfl⟩
  · exact ⟨.bool _, rfl, rfl, rfl⟩
  · exact ⟨.str _, rfl, rfl, rfl⟩
  · exact ⟨.nilp, rfl, rfl, rfl⟩
  · exact ⟨.nils, rfl, rfl, rfl⟩
  · exact ⟨.nilm, rfl, rfl, rfl⟩
  · exact ⟨.nilf, rfl, rfl, rfl⟩
  · exact ⟨.nili, rfl, rfl, rfl⟩

theorem leavesOfV_get : ∀ {Vs : List Value} {xs : List AV}, leavesOfV Vs = some xs → xs.length = Vs.length ∧ ∀ (j : Nat) (V : Value), Vs[j]? = some V → ∃ x, xs[j]? = some x ∧ leafOfV V = some x
  | [], xs, h => by cases h; exact ⟨rfl, fun j V hj => by simp at hj⟩
  | V :: r, xs, h => by
    unfold leavesOfV at h
    split at h
    · rename_i x ys hx hr
      cases h
      have ih := leavesOfV_get hr
      refine ⟨by simp [ih.1], fun j V' hj => ?_⟩
      cases j with
      | zero => simp at hj; subst hj; exact ⟨x, by simp, hx⟩
      | succ j => simp at hj; simpa using ih.2 j V' hj
    · cases h

theorem ofV_rel {c : Cx} {V : Value} {x : AV} (h : ofV V = some x) : Rel c x V := by
  unfold ofV at h
  split at h
  · rename_i cs
    cases hl : leavesOfV cs.toList with
    | none => rw [hl] at h; cases h
    | some xs =>
      rw [hl] at h
      cases h
      have hg := leavesOfV_get hl
      refine .agg xs cs (by simpa using hg.1) (fun j V hV => ?_) (fun j x V hx hV => ?_)
      · obtain ⟨y, _, hy⟩ := hg.2 j V (by simpa using hV)
        exact (leafOfV_rel (c := c) hy).2.1
      · obtain ⟨y, hy1, hy2⟩ := hg.2 j V (by simpa using hV)
        rw [hx] at hy1
        cases hy1
        exact (leafOfV_rel hy2).1
  · exact (leafOfV_rel h).1

/-- A value's cells on both sides. -/
theorem Rel.cells {c : Cx} {v : AV} {V : Value} {cs : List AV} (h : Rel c v V) (hc : v.cells = some cs) :
    V.cells.size = cs.length ∧ ∀ (j : Nat) (x : AV), cs[j]? = some x → ∃ U, V.cells[j]? = some U ∧ U.oneCell' = true ∧ Rel c x U := by
  have one : ∀ {x : AV} {U : Value}, Rel c x U → U.oneCell' = true → U.cells = #[U] → [x] = cs → U.cells.size = cs.length ∧ ∀ (j : Nat) (y : AV), cs[j]? = some y → ∃ Z, U.cells[j]? = some Z ∧ Z.oneCell' = true ∧ Rel c y Z := by
    intro x U hr h1 hu hcs
    subst hcs
    rw [hu]
    refine ⟨rfl, fun j y hy => ?_⟩
    cases j with
    | zero => simp at hy; subst hy; exact ⟨U, by simp, h1, hr⟩
    | succ j => simp at hy
  have h' := h
  cases h with
  | undef V => cases hc
  | tup cs Vs hl h2 => cases hc
  | agg xs Vs hl h1 h2 =>
    simp only [AV.cells, Option.some.injEq] at hc
    subst hc
    refine ⟨hl.symm, fun j x hx => ?_⟩
    have hj : j < Vs.size := by rw [← hl]; exact (List.getElem?_eq_some_iff.1 hx).1
    exact ⟨Vs[j], by simp [Value.cells, hj], h1 j _ (by simp [hj]), h2 j x _ hx (by simp [hj])⟩
  | _ => exact one h' rfl rfl (by simpa [AV.cells] using hc)

/-- Cells that lie at an address. -/
def CellsAt (c : Cx) (b o : Nat) (cs : List AV) : Prop := ∀ (j : Nat) (x : AV), cs[j]? = some x → ∃ V, c.w.cell? ⟨b, o + j, none⟩ = some V ∧ V.oneCell' = true ∧ Rel c x V

theorem CellsAt.drop {c : Cx} {b o : Nat} {cs : List AV} (h : CellsAt c b o cs) (k : Nat) : CellsAt c b (o + k) (cs.drop k) := fun j x hx => by
  rw [List.getElem?_drop] at hx
  have := h (k + j) x hx
  rwa [← Nat.add_assoc] at this

theorem add_spot (b o n : Nat) : (⟨b, o, none⟩ : Addr).add n = ⟨b, o + n, none⟩ := by
  unfold Addr.add
  split
  · subst_vars; rfl
  · rfl

theorem cell_at {w : World} {b o : Nat} {cells : Array Value} {T : TypeId} {fr : Nat × Nat} (h : w.heap[b]? = some (.cells cells T fr)) : w.cell? ⟨b, o, none⟩ = cells[o]? := by
  simp [World.cell?, h]

theorem run_un {P : Program} {t : TypeId} {d : TypeDesc} (h : P.underlying t = some d) (w : World) : (underlying t).run P w = .ok d w := run_underlying h w
theorem run_sz {P : Program} {t : TypeId} {n : Nat} (h : szOf P t = some n) (w : World) : (sizeOf t).run P w = .ok n w := by
  unfold szOf at h
  cases hi : P.info? t with
  | none => rw [hi] at h; cases h
  | some i => rw [hi] at h; cases h; simp [sizeOf, typeInfo, hi]
theorem run_agg {P : Program} {t : TypeId} {b : Bool} (h : aggOf P t = some b) (w : World) : (isAgg t).run P w = .ok b w := by
  unfold aggOf at h
  cases hi : P.underlying t with
  | none => rw [hi] at h; cases h
  | some d =>
    rw [hi] at h
    simp only [Option.map_some, Option.some.injEq] at h
    subst h
    unfold isAgg
    rw [Sem.run_bind, run_un hi]
    cases d <;> simp
theorem run_zr {P : Program} {t : TypeId} {x : AV} (h : zrOf P t = some x) (w : World) : ∃ V, (zeroValue t).run P w = .ok V w ∧ ∀ c, Rel c x V := by
  unfold zrOf at h
  cases hi : P.info? t with
  | none => rw [hi] at h; cases h
  | some i =>
    rw [hi] at h
    simp only [Option.bind_some] at h
    cases hz : i.zero with
    | none => rw [hz] at h; cases h
    | some V =>
      rw [hz] at h
      exact ⟨V, by simp [zeroValue, typeInfo, hi, hz], fun c => ofV_rel h⟩

/-! ### Loads -/
def ldCells (P : Program) (t : TypeId) (cs : List AV) : Option AV :=
  match aggOf P t, szOf P t with
  | some true, some n => if n ≤ cs.length then some (.agg (cs.take n)) else none
  | some false, _ => cs[0]?
  | _, _ => none

def vload (P : Program) (H : Hp) (t : TypeId) : AV → Option AV
  | .ptr l i k => match H[l]? with
    | some (.arr _ _ rows) | some (.frz _ rows) => match rows[i]? with
      | some r => ldCells P t (r.drop k)
      | none => none
    | some (.one _ cs) => if i = 0 then ldCells P t (cs.drop k) else none
    | _ => none
  | .iptr _ cs => ldCells P t cs
  | _ => none

theorem ld_sound {P : Program} {c : Cx} {t : TypeId} {b o : Nat} {cs : List AV} {x : AV} (h : CellsAt c b o cs) (hx : ldCells P t cs = some x) :
    ∃ V, (loadVar t ⟨b, o, none⟩).run P c.w = .ok V c.w ∧ Rel c x V := by
  unfold ldCells at hx
  split at hx
  · rename_i n ha hn
    split at hx
    · rename_i hle
      cases hx
      have hF : ∀ j, ∃ V, j < n → c.w.cell? ⟨b, o + j, none⟩ = some V ∧ V.oneCell' = true ∧ ∀ y, cs[j]? = some y → Rel c y V := fun j => by
        by_cases hj : j < n
        · obtain ⟨V, h1, h2, h3⟩ := h j cs[j] (List.getElem?_eq_getElem (by omega))
          refine ⟨V, fun _ => ⟨h1, h2, fun y hy => ?_⟩⟩
          rw [List.getElem?_eq_getElem (by omega)] at hy
          cases hy
          exact h3
        · exact ⟨undef, fun h => absurd h hj⟩
      have hl := run_loadCells (P := P) c.w ⟨b, o, none⟩ n (fun j => (hF j).choose) (fun j hj => by rw [add_spot]; exact ((hF j).choose_spec hj).1)
      refine ⟨.agg ((List.range n).map (fun j => (hF j).choose)).toArray, ?_, ?_⟩
      · unfold loadVar
        simp [run_agg ha, run_sz hn, hl]
      · refine .agg _ _ (by simp; omega) (fun j V hV => ?_) (fun j y V hy hV => ?_)
        · simp only [List.getElem?_toArray, List.getElem?_map] at hV
          by_cases hj : j < n
          · rw [List.getElem?_range hj] at hV
            cases hV
            exact ((hF j).choose_spec hj).2.1
          · rw [List.getElem?_eq_none (by simp; omega)] at hV
            cases hV
        · simp only [List.getElem?_toArray, List.getElem?_map] at hV
          by_cases hj : j < n
          · rw [List.getElem?_range hj] at hV
            cases hV
            rw [List.getElem?_take, if_pos hj] at hy
            exact ((hF j).choose_spec hj).2.2 y hy
          · rw [List.getElem?_eq_none (by simp; omega)] at hV
            cases hV
    · cases hx
  · rename_i ha
    obtain ⟨V, h1, h2, h3⟩ := h 0 x hx
    refine ⟨V, ?_, h3⟩
    unfold loadVar
    simp only [Nat.add_zero] at h1
    simp [run_agg ha, h1]
  · cases hx

theorem RowsAt.cells {c : Cx} {b base sz i k : Nat} {cells : Array Value} {T : TypeId} {fr : Nat × Nat} {rows : List (List AV)} {r : List AV}
    (hh : c.w.heap[b]? = some (.cells cells T fr)) (h : RowsAt c cells base sz rows) (hr : rows[i]? = some r) : CellsAt c b (base + i * sz + k) (r.drop k) := fun j x hx => by
  rw [List.getElem?_drop] at hx
  obtain ⟨V, h1, h2, h3⟩ := (h i r hr).2 (k + j) x hx
  exact ⟨V, by rw [cell_at hh, ← h1]; congr 1; omega, h2, h3⟩

/-- What a reading at a pointer finds. -/
theorem ptr_cells {c : Cx} {H : Hp} (s : Sim c H) {l i k : Nat} {V : Value} (hV : Rel c (.ptr l i k) V) {rows : List (List AV)} {r : List AV}
    (hl : (∃ T sz, H[l]? = some (.arr T sz rows)) ∨ ∃ sz, H[l]? = some (.frz sz rows)) (hr : rows[i]? = some r) : ∃ b o, V = .pointer (some ⟨b, o, none⟩) ∧ CellsAt c b o (r.drop k) := by
  cases hV with
  | ptr _ _ _ cl h =>
    rcases hl with ⟨T, sz, hl⟩ | ⟨sz, hl⟩
    · obtain ⟨cl', cells, e1, e2, e3, e4, e5, e6, e7⟩ := s.obj l _ hl
      rw [h] at e1
      cases e1
      exact ⟨_, _, rfl, RowsAt.cells e3 (e2 ▸ e7) hr⟩
    · obtain ⟨e0, cl', cells, T, fr, e1, e2, e3, e4, e5, e6⟩ := s.obj l _ hl
      rw [h] at e1
      cases e1
      exact ⟨_, _, rfl, RowsAt.cells e3 (e2 ▸ e6) hr⟩

theorem iptr_cells {c : Cx} {bo : Bool} {cs : List AV} {V : Value} (hV : Rel c (.iptr bo cs) V) : ∃ b o, V = .pointer (some ⟨b, o, none⟩) ∧ CellsAt c b o cs := by
  cases hV with
  | iptr _ _ b o F hb hv h1 h2 =>
    refine ⟨b, o, rfl, fun j x hx => ?_⟩
    have hj := (List.getElem?_eq_some_iff.1 hx).1
    exact ⟨F j, (h1 j hj).1, (h1 j hj).2, h2 j x hx⟩

theorem load_sound {P : Program} {c : Cx} {H : Hp} (s : Sim c H) {t : TypeId} {v x : AV} {V : Value} (hV : Rel c v V) (hx : vload P H t v = some x) :
    ∃ X, (Instr.loadAt t V).run P c.w = .ok X c.w ∧ Rel c x X := by
  unfold vload at hx
  split at hx
  · rename_i l i k
    have key : ∀ {rows : List (List AV)}, ((∃ T sz, H[l]? = some (.arr T sz rows)) ∨ ∃ sz, H[l]? = some (.frz sz rows)) → (match rows[i]? with | some r => ldCells P t (r.drop k) | none => none) = some x → ∃ X, (Instr.loadAt t V).run P c.w = .ok X c.w ∧ Rel c x X := by
      intro rows hl hx
      split at hx
      · rename_i r hr
        obtain ⟨b, o, rfl, hc⟩ := ptr_cells s hV hl hr
        obtain ⟨X, h1, h2⟩ := ld_sound hc hx
        exact ⟨X, by simpa [Instr.loadAt, Instr.sureAddr] using h1, h2⟩
      · cases hx
    split at hx
    · rename_i T sz rows hl
      exact key (.inl ⟨T, sz, hl⟩) hx
    · rename_i sz rows hl
      exact key (.inr ⟨sz, hl⟩) hx
    · rename_i T cs hl
      split at hx
      · rename_i hi
        subst hi
        obtain ⟨cl', cells, e1, e2, e3, e4, e5, e6, e7, e8, e9⟩ := s.obj l _ hl
        cases hV with
        | ptr _ _ _ cl hρ =>
          rw [hρ] at e1
          cases e1
          obtain ⟨X, h1, h2⟩ := ld_sound (RowsAt.cells (k := k) e3 (e2 ▸ e7) (i := 0) rfl) hx
          exact ⟨X, by simpa [Instr.loadAt, Instr.sureAddr] using h1, h2⟩
      · cases hx
    · cases hx
  · obtain ⟨b, o, rfl, hc⟩ := iptr_cells hV
    obtain ⟨X, h1, h2⟩ := ld_sound hc hx
    exact ⟨X, by simpa [Instr.loadAt, Instr.sureAddr] using h1, h2⟩
  · cases hx

/-! ### Stores -/
def setC (r : List AV) (k : Nat) (cs : List AV) : List AV := r.take k ++ cs ++ r.drop (k + cs.length)

def vstore (P : Program) (H : Hp) (t : TypeId) (p x : AV) : Option Hp :=
  match p with
  | .ptr l i k => match H[l]? with
    | some (.one T r) => match x.cells, szOf P t with
      | some cs, some n => if cs.length = n ∧ k + n ≤ r.length ∧ n ≠ 0 ∧ i = 0 then some (H.set l (.one T (setC r k cs))) else none
      | _, _ => none
    | some (.arr T sz rows) => match rows[i]?, x.cells, szOf P t with
      | some r, some cs, some n => if cs.length = n ∧ k + n ≤ r.length ∧ n ≠ 0 then some (H.set l (.arr T sz (rows.set i (setC r k cs)))) else none
      | _, _, _ => none
    | _ => none
  | _ => none

theorem setC_length {r cs : List AV} {k : Nat} (h : k + cs.length ≤ r.length) : (setC r k cs).length = r.length := by
  simp [setC]; omega
theorem setC_get {r cs : List AV} {k : Nat} (h : k + cs.length ≤ r.length) (j : Nat) : (setC r k cs)[j]? = if k ≤ j ∧ j < k + cs.length then cs[j - k]? else r[j]? := by
  unfold setC
  rw [List.append_assoc]
  by_cases h1 : j < k
  · rw [List.getElem?_append_left (by simp; omega), List.getElem?_take, if_pos h1, if_neg (by omega)]
  · rw [List.getElem?_append_right (by simp; omega)]
    have hk : (r.take k).length = k := by simp; omega
    rw [hk]
    by_cases h2 : j < k + cs.length
    · rw [List.getElem?_append_left (by omega), if_pos (by omega)]
    · rw [List.getElem?_append_right (by omega), if_neg (by omega), List.getElem?_drop]
      congr 1
      omega

theorem splice_get (cur : List Value) (vs : List Value) (o : Nat) (h : o + vs.length ≤ cur.length) (j : Nat) :
    (cur.take o ++ vs ++ cur.drop (o + vs.length))[j]? = if o ≤ j ∧ j < o + vs.length then vs[j - o]? else cur[j]? := by
  rw [List.append_assoc]
  by_cases h1 : j < o
  · rw [List.getElem?_append_left (by simp; omega), List.getElem?_take, if_pos h1, if_neg (by omega)]
  · have hk : (cur.take o).length = o := by simp; omega
    rw [List.getElem?_append_right (by simp; omega), hk]
    by_cases h2 : j < o + vs.length
    · rw [List.getElem?_append_left (by omega), if_pos (by omega)]
    · rw [List.getElem?_append_right (by omega), if_neg (by omega), List.getElem?_drop]
      congr 1
      omega

theorem setRow_other {w : World} {g b : Nat} {cells : Array Value} (h : b ≠ g) : (w.setRow g cells).heap[b]? = w.heap[b]? := by
  simp only [World.setRow, Array.getElem?_modify]
  rw [if_neg (Ne.symm h)]

/-- Cells stored at an address of an object's block: what the block is then. -/
theorem run_put {P : Program} {w : World} {b o : Nat} {cells : Array Value} {T : TypeId} {vs : List Value} (hh : w.heap[b]? = some (.cells cells T (0, 0))) (hl : o + vs.length ≤ cells.size) (h1 : ∀ v ∈ vs, v.oneCell' = true) :
    ∃ w' cells', (storeCells ⟨b, o, none⟩ vs 0).run P w = .ok () w' ∧ w'.heap[b]? = some (.cells cells' T (0, 0)) ∧ cells'.size = cells.size ∧
      (∀ j, cells'[j]? = if o ≤ j ∧ j < o + vs.length then vs[j - o]? else cells[j]?) ∧ w'.heap.size = w.heap.size ∧ (∀ k, k ≠ b → w'.heap[k]? = w.heap[k]?) ∧ w'.os = w.os ∧ w'.tape = w.tape ∧ w'.output = w.output := by
  refine ⟨_, _, by simpa using run_storeCells_at (P := P) b o T vs 0 cells w hh (by simpa using hl) h1, setRow_heap w b cells _ T _ hh, by simp; omega, fun j => ?_, by simp [World.setRow], fun k hk => setRow_other hk, rfl, rfl, rfl⟩
  simpa using splice_get cells.toList vs o (by simpa using hl) j
end Go.Vi
end
section
set_option autoImplicit false
namespace Go.Vi

theorem mul_lt_row {i i' sz j : Nat} (h : i' < i) (hj : j < sz) : i' * sz + j < i * sz := by
  have := Nat.mul_le_mul_right sz (show i' + 1 ≤ i by omega)
  rw [Nat.add_mul, Nat.one_mul] at this
  omega

/-- One row's cells are written. -/
theorem RowsAt.put {c : Cx} {cells cells' : Array Value} {base sz i k : Nat} {rows : List (List AV)} {r cs : List AV} {vs : List Value} (h : RowsAt c cells base sz rows) (hr : rows[i]? = some r)
    (hk : k + cs.length ≤ r.length) (hlen : vs.length = cs.length) (hvs : ∀ (j : Nat) (x : AV), cs[j]? = some x → ∃ V, vs[j]? = some V ∧ V.oneCell' = true ∧ Rel c x V)
    (hc : ∀ j, cells'[j]? = if base + i * sz + k ≤ j ∧ j < base + i * sz + k + vs.length then vs[j - (base + i * sz + k)]? else cells[j]?) :
    RowsAt c cells' base sz (rows.set i (setC r k cs)) := by
  intro i' r' hr'
  have hrl := (h i r hr).1
  have hi : i < rows.length := (List.getElem?_eq_some_iff.1 hr).1
  by_cases e : i' = i
  · subst e
    rw [List.getElem?_set_self hi] at hr'
    cases hr'
    refine ⟨by rw [setC_length hk, hrl], fun j x hx => ?_⟩
    rw [setC_get hk] at hx
    split at hx
    · rename_i hj
      obtain ⟨V, h1, h2, h3⟩ := hvs _ x hx
      refine ⟨V, ?_, h2, h3⟩
      rw [hc, if_pos (by omega), ← h1]
      congr 1
      omega
    · rename_i hj
      obtain ⟨V, h1, h2, h3⟩ := (h i' r hr).2 j x hx
      exact ⟨V, by rw [hc, if_neg (by omega)]; exact h1, h2, h3⟩
  · rw [List.getElem?_set_ne (Ne.symm e)] at hr'
    refine ⟨(h i' r' hr').1, fun j x hx => ?_⟩
    obtain ⟨V, h1, h2, h3⟩ := (h i' r' hr').2 j x hx
    refine ⟨V, ?_, h2, h3⟩
    have hj : j < sz := by rw [← (h i' r' hr').1]; exact (List.getElem?_eq_some_iff.1 hx).1
    rw [hc, if_neg]
    · exact h1
    · rcases Nat.lt_or_gt_of_ne e with e | e
      · have := mul_lt_row e hj
        omega
      · have := Nat.mul_le_mul_right sz (show i + 1 ≤ i' from e)
        rw [Nat.add_mul, Nat.one_mul] at this
        omega

theorem RowsAt.lim {c : Cx} {cells : Array Value} {base sz i : Nat} {rows : List (List AV)} {r : List AV} (h : RowsAt c cells base sz rows) (hr : rows[i]? = some r) {j : Nat} (hj : j < sz) : base + i * sz + j < cells.size := by
  have hl := (h i r hr).1
  obtain ⟨V, h1, _⟩ := (h i r hr).2 j r[j] (List.getElem?_eq_getElem (by omega))
  exact (Array.getElem?_eq_some_iff.1 h1).1

theorem store_sound {P : Program} {c : Cx} {H H' : Hp} (s : Sim c H) {t : TypeId} {p x : AV} {V X : Value} (hV : Rel c p V) (hX : Rel c x X) (h : vstore P H t p x = some H') :
    ∃ c', (Instr.storeAt t V X).run P c.w = .ok () c'.w ∧ To c H c' H' := by
  unfold vstore at h
  split at h
  · rename_i l i k
    split at h
    · rename_i T r hl
      split at h
      · rename_i cs n hcs hn
        split at h
        · rename_i hcond
          obtain ⟨hlen, hk, hn0, hi⟩ := hcond
          subst hi
          cases h
          have hr : [r][0]? = some r := rfl
          cases hV with
          | ptr _ _ _ cl hρ =>
            obtain ⟨cl', cells, e1, e2, e3, e4, e5, e6, e7, e8, e9⟩ := s.obj l _ hl
            rw [hρ] at e1
            cases e1
            rw [← e2] at e7
            obtain ⟨hXs, hXc⟩ := hX.cells hcs
            have hrl := (e7 0 r hr).1
            have hlim : cl.base + 0 * cl.sz + k + X.cells.toList.length ≤ cells.size := by
              simp only [Array.length_toList]
              have := RowsAt.lim e7 hr (show k + X.cells.size - 1 < cl.sz by omega)
              omega
            have hone : ∀ v ∈ X.cells.toList, v.oneCell' = true := fun v hv => by
              obtain ⟨j, hj, rfl⟩ := List.getElem_of_mem hv
              have hj' : j < X.cells.size := by simpa using hj
              obtain ⟨U, u1, u2, _⟩ := hXc j cs[j] (List.getElem?_eq_getElem (by omega))
              rw [Array.getElem?_eq_getElem hj'] at u1
              cases u1
              simpa using u2
            obtain ⟨w', cells', hrun, f1, f2, f3, f4, f5, f6, f7, f8⟩ := run_put (P := P) e3 hlim hone
            have hsl : (setC r k cs).length = r.length := setC_length (by omega)
            refine ⟨{ c with w := w' }, ?_, To.write s ⟨_, hl, rfl⟩ hρ _ f4 f5 f6 f7 f8 (fun m => ⟨cl, cells', hρ, by rw [hsl]; exact e2, f1, f2.trans e4, e5, e6, ?_, e8, by rw [hsl]; exact e9⟩)⟩
            · have hsz : X.cells.size = n := by omega
              have e0 : cl.base + 0 * cl.sz + k = cl.base + k := by simp
              rw [e0] at hrun
              simp [Instr.storeAt, Instr.sureAddr, storeVar, run_sz hn, hsz, hrun]
            · have := RowsAt.put (cells' := cells') (cs := cs) (k := k) (vs := X.cells.toList) (e7.mono m) hr (by omega) (by simp; omega) (fun j y hy => by
                obtain ⟨U, u1, u2, u3⟩ := hXc j y hy
                exact ⟨U, by simpa using u1, u2, u3.mono m⟩) f3
              rw [hsl, ← e2]
              exact this
        · cases h
      · cases h
    · rename_i T sz rows hl
      split at h
      · rename_i r cs n hr hcs hn
        split at h
        · rename_i hcond
          obtain ⟨hlen, hk, hn0⟩ := hcond
          cases h
          cases hV with
          | ptr _ _ _ cl hρ =>
            obtain ⟨cl', cells, e1, e2, e3, e4, e5, e6, e7⟩ := s.obj l _ hl
            rw [hρ] at e1
            cases e1
            subst e2
            obtain ⟨hXs, hXc⟩ := hX.cells hcs
            have hrl := (e7 i r hr).1
            have hlim : cl.base + i * cl.sz + k + X.cells.toList.length ≤ cells.size := by
              simp only [Array.length_toList]
              have := RowsAt.lim e7 hr (show k + X.cells.size - 1 < cl.sz by omega)
              omega
            have hone : ∀ v ∈ X.cells.toList, v.oneCell' = true := fun v hv => by
              obtain ⟨j, hj, rfl⟩ := List.getElem_of_mem hv
              have hj' : j < X.cells.size := by simpa using hj
              obtain ⟨U, u1, u2, _⟩ := hXc j cs[j] (List.getElem?_eq_getElem (by omega))
              rw [Array.getElem?_eq_getElem hj'] at u1
              cases u1
              simpa using u2
            obtain ⟨w', cells', hrun, f1, f2, f3, f4, f5, f6, f7, f8⟩ := run_put (P := P) e3 hlim hone
            refine ⟨{ c with w := w' }, ?_, To.write s ⟨_, hl, rfl⟩ hρ _ f4 f5 f6 f7 f8 (fun m => ⟨cl, cells', hρ, rfl, f1, f2.trans e4, e5, e6, ?_⟩)⟩
            · have hsz : X.cells.size = n := by omega
              simp [Instr.storeAt, Instr.sureAddr, storeVar, run_sz hn, hsz, hrun]
            · refine RowsAt.put (e7.mono m) hr (by omega) (by simp; omega) (fun j y hy => ?_) f3
              obtain ⟨U, u1, u2, u3⟩ := hXc j y hy
              exact ⟨U, by simpa using u1, u2, u3.mono m⟩
        · cases h
      · cases h
    · cases h
  · cases h
end Go.Vi
end
section
set_option autoImplicit false
set_option linter.unusedVariables false
set_option linter.unusedSimpArgs false
namespace Go.Vi

/-! ### New rows -/
theorem new_rows {c : Cx} {H : Hp} (s : Sim c H) {cells : Array Value} (T : TypeId) {sz : Nat} {rows : List (List AV)} (h : RowsAt c cells 0 sz rows) :
    To c H { c with w := c.w.alloc (.cells cells T), ρ := updρ c.ρ H.length ⟨c.w.heap.size, 0, sz, cells.size⟩ } (H ++ [.arr T sz rows]) :=
  To.new s _ _ _ rfl fun c' m hρ hh hI hB => ⟨_, cells, hρ, rfl, hh, rfl, hI, hB, h.mono m⟩

theorem rows_one {c : Cx} {x : AV} {V : Value} {cs : List AV} (h : Rel c x V) (hc : x.cells = some cs) : RowsAt c V.cells 0 cs.length [cs] := fun i r hr => by
  cases i with
  | succ i => simp at hr
  | zero =>
    simp at hr
    subst hr
    refine ⟨rfl, fun j y hy => ?_⟩
    obtain ⟨U, u1, u2, u3⟩ := (h.cells hc).2 j y hy
    exact ⟨U, by simpa using u1, u2, u3⟩

theorem updρ_self (ρ : Nat → Option CL) (l : Nat) (cl : CL) : updρ ρ l cl l = some cl := by simp [updρ]

def vbox (H : Hp) (t : TypeId) (x : AV) : Option (AV × Hp) :=
  match x.cells with
  | some cs => some (.ptr H.length 0 0, H ++ [.arr t cs.length [cs]])
  | none => none

/-- What a step yields. -/
def Yields (P : Program) (c : Cx) (H : Hp) (e : Sem Value) (v : AV) (H' : Hp) : Prop := ∃ V c', e.run P c.w = .ok V c'.w ∧ To c H c' H' ∧ Rel c' v V

theorem Yields.same {P : Program} {c : Cx} {H : Hp} (s : Sim c H) {e : Sem Value} {v : AV} {V : Value} (h : e.run P c.w = .ok V c.w) (hr : Rel c v V) : Yields P c H e v H := ⟨V, c, h, To.refl s, hr⟩

theorem newVar_sound {P : Program} {c : Cx} {H : Hp} (s : Sim c H) {t : TypeId} {x : AV} {X : Value} (hX : Rel c x X) {cs : List AV} (hc : x.cells = some cs) :
    Yields P c H (do pure (.pointer (some (← newVar t X)))) (.ptr H.length 0 0) (H ++ [.arr t cs.length [cs]]) := by
  refine ⟨.pointer (some ⟨c.w.heap.size, 0, none⟩), _, ?_, new_rows s t (rows_one hX hc), ?_⟩
  · simp [newVar, newRow, World.alloc_eq]
  · have := Rel.ptr (c := { c with w := c.w.alloc (.cells X.cells t), ρ := updρ c.ρ H.length ⟨c.w.heap.size, 0, cs.length, X.cells.size⟩ }) H.length 0 0 _ (updρ_self _ _ _)
    simpa using this

theorem box_sound {P : Program} {c : Cx} {H H' : Hp} (s : Sim c H) {t : TypeId} {x v : AV} {X : Value} (hX : Rel c x X) (h : vbox H t x = some (v, H')) : Yields P c H (Instr.box t X) v H' := by
  unfold vbox at h
  split at h
  · rename_i cs hc
    cases h
    exact newVar_sound s hX hc
  · cases h

def valloc (P : Program) (H : Hp) (t : TypeId) : Option (AV × Hp) := (zrOf P t).bind (vbox H t)

theorem alloc_sound {P : Program} {c : Cx} {H H' : Hp} (s : Sim c H) {t : TypeId} {v : AV} (h : valloc P H t = some (v, H')) : Yields P c H (Instr.alloc t true (.tuple #[])) v H' := by
  unfold valloc at h
  cases hz : zrOf P t with
  | none => rw [hz] at h; cases h
  | some z =>
    rw [hz] at h
    obtain ⟨Z, h1, h2⟩ := run_zr hz c.w
    obtain ⟨V, c', h3, h4, h5⟩ := box_sound (P := P) (t := t) s (h2 c) h
    refine ⟨V, c', ?_, h4, h5⟩
    simp only [Instr.alloc, Sem.run_bind, h1, Result.andThen_ok]
    exact h3

/-! ### Addresses -/
def fieldAt (P : Program) (s : TypeId) (f : Nat) : Option (Nat × TypeId × Nat) :=
  match P.underlying s with
  | some (.struct fields) => match fields[f]? with
    | some fd => match szOf P fd.type with
      | some n => some (fd.offset, fd.type, n)
      | none => none
    | none => none
  | _ => none

theorem fieldAt_of {P : Program} {s : TypeId} {f : Nat} {off : Nat} {ft : TypeId} {n : Nat} (h : fieldAt P s f = some (off, ft, n)) :
    ∃ fields fd, P.underlying s = some (.struct fields) ∧ fields[f]? = some fd ∧ fd.offset = off ∧ fd.type = ft ∧ szOf P ft = some n := by
  unfold fieldAt at h
  split at h
  · rename_i fields hu
    split at h
    · rename_i fd hf
      split at h
      · rename_i n' hn
        cases h
        exact ⟨fields, fd, hu, hf, rfl, rfl, hn⟩
      · cases h
    · cases h
  · cases h

def vfield (P : Program) (s : TypeId) (f : Nat) (x : AV) : Option AV :=
  match fieldAt P s f with
  | some (off, _, n) => if n = 0 then none else match x with
    | .ptr l i k => some (.ptr l i (k + off))
    | .iptr b cs => some (.iptr b (cs.drop off))
    | _ => none
  | none => none

theorem Rel.iptr_drop {c : Cx} {bo : Bool} {cs : List AV} {b o : Nat} (h : Rel c (.iptr bo cs) (.pointer (some ⟨b, o, none⟩))) (k : Nat) :
    Rel c (.iptr bo (cs.drop k)) (.pointer (some ⟨b, o + k, none⟩)) := by
  cases h with
  | iptr _ _ _ _ F hb hv h1 h2 =>
    refine .iptr bo _ b (o + k) (fun j => F (k + j)) (hb.imp (fun e => by rw [e]; simp) id) (fun x hx => hv x (List.mem_of_mem_drop hx)) (fun j hj => ?_) (fun j x hx => ?_)
    · rw [List.length_drop] at hj
      have := h1 (k + j) (by omega)
      rwa [← Nat.add_assoc] at this
    · rw [List.getElem?_drop] at hx
      exact h2 _ x hx

theorem field_sound {P : Program} {c : Cx} {s : TypeId} {f : Nat} {x v : AV} {X : Value} (hX : Rel c x X) (h : vfield P s f x = some v) :
    ∃ V, (Instr.fieldAt s X f).run P c.w = .ok V c.w ∧ Rel c v V := by
  unfold vfield at h
  split at h
  · rename_i off ft n hf
    obtain ⟨fields, fd, hu, hfd, ho, ht, hn⟩ := fieldAt_of hf
    split at h
    · cases h
    · rename_i hn0
      have run : ∀ b o, (Instr.fieldAt s (.pointer (some ⟨b, o, none⟩)) f).run P c.w = .ok (.pointer (some ⟨b, o + off, none⟩)) c.w := fun b o => by
        subst ho; subst ht
        simp [Instr.fieldAt, run_un hu, hfd, Instr.sureAddr, fieldPlace, run_sz hn, hn0, add_spot]
      split at h
      · rename_i l i k
        cases h
        cases hX with
        | ptr _ _ _ cl hρ => exact ⟨_, run _ _, by have := Rel.ptr l i (k + off) cl hρ; rwa [← Nat.add_assoc] at this⟩
      · rename_i bo cs
        cases h
        cases hX with
        | iptr _ _ b o F hb hv h1 h2 => exact ⟨_, run _ _, (Rel.iptr bo cs b o F hb hv h1 h2).iptr_drop off⟩
      · cases h
  · cases h

def lenOk (sz : Nat) (rows : List (List AV)) : Bool := rows.all fun r => r.length == sz

/-- The element's type and its cells, of a slice or an array type. -/
def elemAt (P : Program) (t : TypeId) : Option (Option Nat × TypeId × Nat) :=
  match P.underlying t with
  | some (.slice e) => (szOf P e).map fun n => (none, e, n)
  | some (.array len e) => (szOf P e).map fun n => (some len, e, n)
  | _ => none

theorem elemAt_of {P : Program} {t : TypeId} {a : Option Nat} {e : TypeId} {n : Nat} (h : elemAt P t = some (a, e, n)) :
    szOf P e = some n ∧ ((a = none ∧ P.underlying t = some (.slice e)) ∨ ∃ len, a = some len ∧ P.underlying t = some (.array len e)) := by
  unfold elemAt at h
  split at h
  · rename_i e' hu
    cases hs : szOf P e' with
    | none => rw [hs] at h; cases h
    | some m => rw [hs] at h; cases h; exact ⟨hs, .inl ⟨rfl, hu⟩⟩
  · rename_i len e' hu
    cases hs : szOf P e' with
    | none => rw [hs] at h; cases h
    | some m => rw [hs] at h; cases h; exact ⟨hs, .inr ⟨len, rfl, hu⟩⟩
  · cases h

def vindexAddr (P : Program) (H : Hp) (t : TypeId) (x ix : AV) : Option AV :=
  match elemAt P t, ix with
  | some (none, _, sz), .int _ n => match x with
    | .list tg rows => if 0 ≤ n ∧ n < rows.length then match rows[n.toNat]? with
        | some r => if r.length = sz then some (.iptr (tg == .bor) r) else none
        | none => none
      else none
    | .row _ l i m => if 0 ≤ n ∧ n < m then match H[l]? with
        | some (.arr _ sz' _) | some (.frz sz' _) => if sz' = sz then some (.ptr l (i + n.toNat) 0) else none
        | _ => none
      else none
    | .sub l i k es m => if 0 ≤ n ∧ n < m ∧ es = sz then some (.ptr l i (k + n.toNat * es)) else none
    | _ => none
  | some (some len, _, sz), .int _ n => if 0 ≤ n ∧ n < len then match x with
    | .ptr l i k => some (.ptr l i (k + n.toNat * sz))
    | .iptr b cs => some (.iptr b (cs.drop (n.toNat * sz)))
    | _ => none
    else none
  | _, _ => none

theorem obj_sz {c : Cx} {H : Hp} (s : Sim c H) {l sz : Nat} {rows : List (List AV)} {cl : CL} (h : (∃ T, H[l]? = some (.arr T sz rows)) ∨ H[l]? = some (.frz sz rows)) (hρ : c.ρ l = some cl) : cl.sz = sz := by
  rcases h with ⟨T, h⟩ | h
  · obtain ⟨cl', _, e1, e2, _⟩ := s.obj l _ h
    rw [hρ] at e1; cases e1; exact e2
  · obtain ⟨_, cl', _, _, _, e1, e2, _⟩ := s.obj l _ h
    rw [hρ] at e1; cases e1; exact e2

theorem Rel.list_elem {c : Cx} {tg : Tg} {rows : List (List AV)} {b o len cap sz : Nat} (h : Rel c (.list tg rows) (.slice (some ⟨b, o, none⟩) len cap)) {n : Nat} {r : List AV} (hr : rows[n]? = some r) (hsz : r.length = sz) :
    len = rows.length ∧ Rel c (.iptr (tg == .bor) r) (.pointer (some ⟨b, o + n * sz, none⟩)) := by
  cases h with
  | list _ _ _ _ sz' _ _ hsp F hb hc ht hs hv h1 h2 =>
    have hm := List.mem_of_getElem? hr
    have hs' : sz' = sz := (hs r hm).symm.trans hsz
    subst hs'
    have hn := (List.getElem?_eq_some_iff.1 hr).1
    refine ⟨rfl, .iptr _ r b _ (F n) (hb.elim (fun e => by subst e; cases hr) (fun h => .inr ?_)) (fun x hx => List.all_eq_true.1 (List.all_eq_true.1 hv r hm) x hx) (fun j hj => h1 n j hn (by omega)) (fun j x hx => h2 n r j x hr hx)⟩
    cases tg <;> exact h

theorem indexAddr_sound {P : Program} {c : Cx} {H : Hp} (s : Sim c H) {t : TypeId} {x ix v : AV} {X IX : Value} (hX : Rel c x X) (hI : Rel c ix IX) (h : vindexAddr P H t x ix = some v) :
    ∃ V, (Instr.indexAt t X IX).run P c.w = .ok V c.w ∧ Rel c v V := by
  unfold vindexAddr at h
  split at h
  · rename_i e sz k n he
    obtain ⟨hsz, hu⟩ := elemAt_of he
    simp only [true_and, reduceCtorEq, false_and, exists_false, or_false] at hu
    cases hI
    have run : ∀ (b o len cap : Nat), 0 ≤ n → n < (len : Int) → (Instr.indexAt t (.slice (some ⟨b, o, none⟩) len cap) (.int k n)).run P c.w = .ok (.pointer (some ⟨b, o + n.toNat * sz, none⟩)) c.w := fun b o len cap h0 h1 => by
      simp [Instr.indexAt, asIntOf, run_un hu, h0, h1, run_sz hsz, add_spot]
    split at h
    · rename_i tg rows
      split at h
      · rename_i hb
        split at h
        · rename_i r hr
          split at h
          · rename_i hl
            cases h
            have hX' := hX
            cases hX with
            | list _ _ b o sz' cap sp hsp F hb' hc ht hs hv h1 h2 =>
              obtain rfl := hsp.resolve_left (fun e => by subst e; cases hr)
              exact ⟨_, run b o _ cap hb.1 hb.2, (hX'.list_elem hr hl).2⟩
          · cases h
        · cases h
      · cases h
    · rename_i tt l i m
      split at h
      · rename_i hb
        cases hX with
        | row _ _ _ _ cl o cap hρ ho hn ht hl =>
          have fin : ∀ sz', cl.sz = sz' → (if sz' = sz then some (AV.ptr l (i + n.toNat) 0) else none) = some v → ∃ V, (Instr.indexAt t (.slice (some ⟨cl.blk, o, none⟩) m cap) (.int k n)).run P c.w = .ok V c.w ∧ Rel c v V := by
            intro sz' e h
            split at h
            · rename_i e2
              cases h
              subst e2
              have hcap : cap ≠ 0 := by omega
              have ho' : o = cl.base + i * cl.sz := ho
              refine ⟨_, run _ _ _ _ hb.1 hb.2, ?_⟩
              have := Rel.ptr l (i + n.toNat) 0 cl hρ
              rw [Nat.add_mul] at this
              rw [ho', ← e]
              simpa [Nat.add_assoc] using this
            · cases h
          split at h
          · rename_i T sz' rows hobj
            exact fin sz' (obj_sz s (.inl ⟨T, hobj⟩) hρ) h
          · rename_i sz' rows hobj
            exact fin sz' (obj_sz s (.inr hobj) hρ) h
          · cases h
      · cases h
    · rename_i l i k2 es m
      split at h
      · rename_i hb
        cases h
        cases hX with
        | sub _ _ _ _ _ cl o cap hρ ho hn =>
          obtain ⟨b0, b1, rfl⟩ := hb
          have ho' := ho.resolve_right (by omega)
          refine ⟨_, run _ _ _ _ b0 b1, ?_⟩
          have := Rel.ptr l i (k2 + n.toNat * es) cl hρ
          rw [ho']
          simpa [Nat.add_assoc] using this
      · cases h
    · cases h
  · rename_i len e sz k n he
    obtain ⟨hsz, hu⟩ := elemAt_of he
    obtain ⟨len', hl', hu⟩ := hu.resolve_left (fun h => by cases h.1)
    cases hl'
    cases hI
    split at h
    · rename_i hb
      have run : ∀ b o, (Instr.indexAt t (.pointer (some ⟨b, o, none⟩)) (.int k n)).run P c.w = .ok (.pointer (some ⟨b, o + n.toNat * sz, none⟩)) c.w := fun b o => by
        simp [Instr.indexAt, asIntOf, run_un hu, Instr.sureAddr, hb.1, hb.2, run_sz hsz, add_spot]
      split at h
      · rename_i l i k2
        cases h
        cases hX with
        | ptr _ _ _ cl hρ => exact ⟨_, run _ _, by have := Rel.ptr l i (k2 + n.toNat * sz) cl hρ; rwa [← Nat.add_assoc] at this⟩
      · rename_i bo cs
        cases h
        cases hX with
        | iptr _ _ b o F hb hv h1 h2 => exact ⟨_, run _ _, (Rel.iptr bo cs b o F hb hv h1 h2).iptr_drop _⟩
      · cases h
    · cases h
  · cases h

/-! ### Parts of values -/
def vpart (P : Program) (t : TypeId) (cs : List AV) (off : Nat) : Option AV := ldCells P t (cs.drop off)

theorem part_sound {P : Program} {c : Cx} {t : TypeId} {cs : List AV} {Vs : Array Value} {off : Nat} {v : AV} (h : Rel c (.agg cs) (.agg Vs)) (hv : vpart P t cs off = some v) (w : World) :
    ∃ V, (part t Vs off).run P w = .ok V w ∧ Rel c v V := by
  cases h with
  | agg _ _ hl h1 h2 =>
    unfold vpart ldCells at hv
    split at hv
    · rename_i n ha hn
      split at hv
      · rename_i hle
        cases hv
        rw [List.length_drop] at hle
        refine ⟨.agg (Vs.extract off (off + n)), by simp [part, run_agg ha, run_sz hn], .agg _ _ (by simp; omega) (fun j V hV => ?_) (fun j x V hx hV => ?_)⟩
        · rw [Array.getElem?_extract] at hV
          split at hV
          · exact h1 _ V hV
          · cases hV
        · rw [Array.getElem?_extract] at hV
          split at hV
          · rw [List.getElem?_take] at hx
            split at hx
            · rw [List.getElem?_drop] at hx
              exact h2 _ x V hx hV
            · cases hx
          · cases hV
      · cases hv
    · rename_i ha
      rw [List.getElem?_drop] at hv
      have hj := (List.getElem?_eq_some_iff.1 hv).1
      have hV : Vs[off]? = some Vs[off] := Array.getElem?_eq_getElem (by omega)
      refine ⟨Vs[off], by simp [part, run_agg ha, hV], h2 off v _ (by simpa using hv) hV⟩
    · cases hv

def vfieldOf (P : Program) (t : TypeId) (f : Nat) (x : AV) : Option AV :=
  match fieldAt P t f, x with
  | some (off, ft, _), .agg cs => vpart P ft cs off
  | _, _ => none

theorem fieldOf_sound {P : Program} {c : Cx} {t : TypeId} {f : Nat} {x v : AV} {X : Value} (hX : Rel c x X) (h : vfieldOf P t f x = some v) : ∃ V, (Instr.field t X f).run P c.w = .ok V c.w ∧ Rel c v V := by
  unfold vfieldOf at h
  split at h
  · rename_i off ft n cs hf
    obtain ⟨fields, fd, hu, hfd, ho, ht, hn⟩ := fieldAt_of hf
    subst ho; subst ht
    have hX' := hX
    cases hX with
    | agg _ Vs hl h1 h2 =>
      obtain ⟨V, hr, hV⟩ := part_sound hX' h c.w
      exact ⟨V, by simp [Instr.field, run_un hu, hfd, asAgg, hr], hV⟩
  · cases h

def vindex (P : Program) (t : TypeId) (x ix : AV) : Option AV :=
  match x, ix with
  | .str s, .int _ n => match P.underlying t with
    | some .string => if 0 ≤ n then match s[n.toNat]? with
        | some b => some (.int .u8 b.toNat)
        | none => none
      else none
    | _ => none
  | .agg cs, .int _ n => match elemAt P t with
    | some (some len, e, sz) => if 0 ≤ n ∧ n < len then vpart P e cs (n.toNat * sz) else none
    | _ => none
  | _, _ => none

theorem index_sound {P : Program} {c : Cx} {t : TypeId} {x ix v : AV} {X IX : Value} (hX : Rel c x X) (hI : Rel c ix IX) (h : vindex P t x ix = some v) : ∃ V, (Instr.index t X IX).run P c.w = .ok V c.w ∧ Rel c v V := by
  unfold vindex at h
  split at h
  · rename_i s k n
    cases hX
    cases hI
    split at h
    · rename_i hu
      split at h
      · rename_i h0
        split at h
        · rename_i b hb
          cases h
          exact ⟨_, by simp [Instr.index, asIntOf, run_un hu, h0, hb], .int _ _⟩
        · cases h
      · cases h
    · cases h
  · rename_i cs k n
    cases hI
    split at h
    · rename_i len e sz he
      obtain ⟨hsz, hu⟩ := elemAt_of he
      obtain ⟨len', hl', hu⟩ := hu.resolve_left (fun h => by cases h.1)
      cases hl'
      split at h
      · rename_i hb
        have hX' := hX
        cases hX with
        | agg _ Vs hl h1 h2 =>
          obtain ⟨V, hr, hV⟩ := part_sound hX' h c.w
          exact ⟨V, by simp [Instr.index, asIntOf, run_un hu, hb.1, hb.2, run_sz hsz, hr], hV⟩
      · cases h
    · cases h
  · cases h

def vextract (x : AV) (i : Nat) : Option AV :=
  match x with
  | .tup vs => vs[i]?
  | _ => none

theorem extract_sound {P : Program} {c : Cx} {x v : AV} {X : Value} {i : Nat} (hX : Rel c x X) (h : vextract x i = some v) : ∃ V, (Instr.extract X i).run P c.w = .ok V c.w ∧ Rel c v V := by
  unfold vextract at h
  split at h
  · cases hX with
    | tup cs Vs hl h2 =>
      have hj := (List.getElem?_eq_some_iff.1 h).1
      have hV : Vs[i]? = some Vs[i] := Array.getElem?_eq_getElem (by omega)
      exact ⟨_, by simp [Instr.extract, hV], h2 i v _ h hV⟩
  · cases h
end Go.Vi
end
section
set_option autoImplicit false
set_option linter.unusedVariables false
set_option linter.unusedSimpArgs false
namespace Go.Vi

/-! ### Operators -/
def vbits (op : BinOp) (k : IntKind) (x y : Int) : Option Int :=
  let a := BitVec.ofInt k.bits x
  let b := BitVec.ofInt k.bits y
  match op with
  | .and => some (k.wrap (a &&& b).toNat)
  | .or => some (k.wrap (a ||| b).toNat)
  | .xor => some (k.wrap (a ^^^ b).toNat)
  | .andNot => some (k.wrap (a &&& ~~~b).toNat)
  | _ => none

def vint (op : BinOp) (k : IntKind) (a b : Int) : Option AV :=
  match op with
  | .add => some (.int k (k.wrap (a + b)))
  | .sub => some (.int k (k.wrap (a - b)))
  | .mul => some (.int k (k.wrap (a * b)))
  | .quo => if b = 0 then none else some (.int k (k.wrap (a.tdiv b)))
  | .rem => if b = 0 then none else some (.int k (a.tmod b))
  | .and | .or | .xor | .andNot => (vbits op k a b).map (.int k)
  | .eql => some (.bool (a == b))
  | .neq => some (.bool (a != b))
  | .lss => some (.bool (a < b))
  | .leq => some (.bool (a ≤ b))
  | .gtr => some (.bool (a > b))
  | .geq => some (.bool (a ≥ b))
  | _ => none

/-- Texts alike; less. -/
def seq (x y : ByteArray) : Bool := x.toList == y.toList
def sless (x y : ByteArray) : Bool := Op.bytesLess x.toList y.toList

def vstr (op : BinOp) (x y : ByteArray) : Option AV :=
  match op with
  | .add => if ((x.size + y.size : Nat) : Int) > IntKind.i64.max then none else some (.str (x ++ y))
  | .eql => some (.bool (seq x y))
  | .neq => some (.bool (!seq x y))
  | .lss => some (.bool (sless x y))
  | .leq => some (.bool (sless x y || seq x y))
  | .gtr => some (.bool (!(sless x y || seq x y)))
  | .geq => some (.bool (!sless x y))
  | _ => none

/-- A test against nil. -/
def veqNil (P : Program) (t : TypeId) (x y : AV) : Option Bool :=
  match P.underlying t, x, y with
  | some (.pointer _), .nilp, .nilp => some true
  | some (.pointer _), .nilp, .ptr .. | some (.pointer _), .ptr .., .nilp | some (.pointer _), .nilp, .iptr .. | some (.pointer _), .iptr .., .nilp => some false
  | some (.slice _), .nils, .nils => some true
  | some (.slice _), .nils, .list .. | some (.slice _), .list .., .nils | some (.slice _), .nils, .row .. | some (.slice _), .row .., .nils
  | some (.slice _), .nils, .sub .. | some (.slice _), .sub .., .nils => some false
  | some (.map ..), .nilm, .nilm => some true
  | some (.map ..), .nilm, .mapr _ | some (.map ..), .mapr _, .nilm => some false
  | some (.func ..), .nilf, .nilf => some true
  | some (.func ..), .nilf, .clo .. | some (.func ..), .clo .., .nilf => some false
  | some (.interface _), .nili, .iface .. | some (.interface _), .iface .., .nili => some false
  | some .bool, .bool a, .bool b => some (a == b)
  | _, _, _ => none

def vbin (P : Program) (op : BinOp) (t : TypeId) (x y : AV) : Option AV :=
  match x, y with
  | .int k a, .int k' b => match op with
    | .shl => if b < 0 then none else some (.int k (k.wrap (a * 2 ^ (min b.toNat k.bits))))
    | .shr => if b < 0 then none else some (.int k (a.fdiv (2 ^ (min b.toNat k.bits))))
    | _ => if k = k' then vint op k a b else none
  | .str a, .str b => vstr op a b
  | _, _ => match op with
    | .eql => (veqNil P t x y).map .bool
    | .neq => (veqNil P t x y).map fun b => .bool (!b)
    | _ => none

theorem vint_sound {P : Program} {op : BinOp} {k : IntKind} {a b : Int} {v : AV} (h : vint op k a b = some v) (t : TypeId) (w : World) (hs : op ≠ .shl ∧ op ≠ .shr) :
    ∃ V, (binOp op t (.int k a) (.int k b)).run P w = .ok V w ∧ ∀ c, Rel c v V := by
  cases op <;> simp only [vint] at h <;> first
    | (cases h; refine ⟨_, ?_, fun c => .int k _⟩; simp [binOp, Op.intArith]; done)
    | (cases h; refine ⟨_, ?_, fun c => .bool _⟩; simp [binOp, Op.intCmp]; done)
    | (split at h
       · cases h
       · rename_i h0
         cases h
         refine ⟨_, ?_, fun c => .int k _⟩
         simp [binOp, Op.intDiv, h0])
    | (simp only [vbits, Option.map_some, Option.some.injEq] at h
       subst h
       refine ⟨_, ?_, fun c => .int k _⟩
       simp [binOp, Op.intBits])
    | (cases h; done)
    | (exact absurd rfl hs.1)
    | (exact absurd rfl hs.2)

theorem vstr_sound {P : Program} {op : BinOp} {a b : ByteArray} {v : AV} (h : vstr op a b = some v) (t : TypeId) (w : World) :
    ∃ V, (binOp op t (.string a) (.string b)).run P w = .ok V w ∧ ∀ c, Rel c v V := by
  cases op <;> simp only [vstr] at h <;> first
    | (cases h; exact ⟨_, rfl, fun c => .bool _⟩)
    | (split at h
       · cases h
       · rename_i h0
         cases h
         refine ⟨_, ?_, fun c => .str _⟩
         simp only [binOp, Op.stringOp, if_neg h0]
         rfl)
    | (cases h; done)

theorem equal_nil {P : Program} {c : Cx} {t : TypeId} {x y : AV} {X Y : Value} {r : Bool} (hX : Rel c x X) (hY : Rel c y Y) (h : veqNil P t x y = some r) (w : World) : (Op.equal t X Y).run P w = .ok r w := by
  have unf : Op.equal t X Y = Op.equalIn (9999 + 1) t X Y := rfl
  rw [unf, Op.equalIn, Sem.run_bind]
  unfold veqNil at h
  split at h <;> first | (cases h; done) | skip
  all_goals
    rename_i hu
    rw [run_un hu]
    cases h
    cases hX
    cases hY
    rfl

theorem eqGuard_skip {P : Program} {op : BinOp} {t : TypeId} {x y : Operand} {X Y : Value} (w : World) (h : ∀ (a b : Array Value), ¬ (X = .agg a ∧ Y = .agg b)) (h' : ¬ (X = .nilIface ∧ Y = .nilIface)) : (eqGuard op t x y X Y).run P w = .ok () w := by
  unfold eqGuard
  cases op <;> first
    | rfl
    | (cases X <;> first
        | rfl
        | (cases Y <;> first
            | rfl
            | exact absurd ⟨rfl, rfl⟩ h'
            | exact absurd ⟨rfl, rfl⟩ (h _ _)))

theorem bin_sound {P : Program} {c : Cx} {op : BinOp} {t : TypeId} {x y v : AV} {X Y : Value} (ox oy : Operand) (hX : Rel c x X) (hY : Rel c y Y) (h : vbin P op t x y = some v) :
    ∃ V, (do eqGuard op t ox oy X Y; binOp op t X Y : Sem Value).run P c.w = .ok V c.w ∧ Rel c v V := by
  unfold vbin at h
  split at h
  · rename_i k a k' b
    cases hX
    cases hY
    rw [Sem.run_bind, eqGuard_skip c.w (fun _ _ h => by cases h.1) (fun h => by cases h.1)]
    simp only [Result.andThen_ok]
    split at h
    · split at h
      · cases h
      · rename_i h0
        cases h
        refine ⟨_, ?_, .int _ _⟩
        simp [binOp, Op.shift, h0]
    · split at h
      · cases h
      · rename_i h0
        cases h
        refine ⟨_, ?_, .int _ _⟩
        simp [binOp, Op.shift, h0]
    · rename_i h1 h2
      split at h
      · rename_i e
        subst e
        obtain ⟨V, hr, hV⟩ := vint_sound (P := P) h t c.w ⟨h1, h2⟩
        exact ⟨V, hr, hV c⟩
      · cases h
  · rename_i a b
    cases hX
    cases hY
    rw [Sem.run_bind, eqGuard_skip c.w (fun _ _ h => by cases h.1) (fun h => by cases h.1)]
    simp only [Result.andThen_ok]
    obtain ⟨V, hr, hV⟩ := vstr_sound (P := P) h t c.w
    exact ⟨V, hr, hV c⟩
  · have nil : ∀ r, veqNil P t x y = some r → (eqGuard op t ox oy X Y).run P c.w = .ok () c.w ∧ ∀ op', op' = .eql ∨ op' = .neq → (binOp op' t X Y).run P c.w = .ok (.bool (if op' = .eql then r else !r)) c.w := by
      intro r hr
      have he := equal_nil hX hY hr c.w
      unfold veqNil at hr
      split at hr <;> first | (cases hr; done) | skip
      all_goals
        cases hX
        cases hY
        refine ⟨eqGuard_skip c.w (fun _ _ h => by cases h.1) (fun h => by first | (cases h.1; done) | (cases h.2; done)), fun op' ho => ?_⟩
        rcases ho with rfl | rfl
        · simp only [binOp, Sem.run_bind, he, Result.andThen_ok, if_true]
          rfl
        · simp only [binOp, Sem.run_bind, he, Result.andThen_ok, if_true]
          rfl
    split at h
    · cases hr : veqNil P t x y with
      | none => rw [hr] at h; cases h
      | some r =>
        rw [hr] at h
        cases h
        obtain ⟨h1, h2⟩ := nil r hr
        rw [Sem.run_bind, h1]
        exact ⟨_, h2 .eql (.inl rfl), .bool _⟩
    · cases hr : veqNil P t x y with
      | none => rw [hr] at h; cases h
      | some r =>
        rw [hr] at h
        cases h
        obtain ⟨h1, h2⟩ := nil r hr
        rw [Sem.run_bind, h1]
        exact ⟨_, h2 .neq (.inr rfl), .bool _⟩
    · cases h

def vun (op : UnOp) (x : AV) : Option AV :=
  match op, x with
  | .neg, .int k n => some (.int k (k.wrap (0 - n)))
  | .xor, .int k n => (vbits .xor k (if k.signed then -1 else k.max) n).map (.int k)
  | .not, .bool b => some (.bool !b)
  | _, _ => none

theorem un_sound {P : Program} {c : Cx} {op : UnOp} {x v : AV} {X : Value} (hX : Rel c x X) (h : vun op x = some v) : ∃ V, (Op.unary op X).run P c.w = .ok V c.w ∧ Rel c v V := by
  unfold vun at h
  split at h
  · cases h; cases hX; exact ⟨_, rfl, .int _ _⟩
  · simp only [vbits, Option.map_some, Option.some.injEq] at h
    subst h
    cases hX
    exact ⟨_, by simp [Op.unary, Op.intBits], .int _ _⟩
  · cases h; cases hX; exact ⟨_, rfl, .bool _⟩
  · cases h

/-! ### Conversions -/
def vconvInt (P : Program) (src dst : TypeId) (x : AV) : Option AV :=
  match P.underlying src, P.underlying dst, x with
  | some _, some (.int k), .int _ n => some (.int k (k.wrap n))
  | some _, some .string, .str s => some (.str s)
  | some _, some .string, .int _ n => some (.str (Utf8.encode n))
  | _, _, _ => none

theorem convInt_sound {P : Program} {c : Cx} {src dst : TypeId} {x v : AV} {X : Value} (hX : Rel c x X) (h : vconvInt P src dst x = some v) : ∃ V, (convert src dst X).run P c.w = .ok V c.w ∧ Rel c v V := by
  unfold vconvInt at h
  split at h
  · rename_i ds k k' n hs hd
    cases h; cases hX
    refine ⟨_, ?_, .int _ _⟩
    simp only [convert, Sem.run_bind, run_un hs, run_un hd, Result.andThen_ok]
    rfl
  · rename_i ds s hs hd
    cases h; cases hX
    refine ⟨_, ?_, .str _⟩
    simp only [convert, Sem.run_bind, run_un hs, run_un hd, Result.andThen_ok]
    cases ds <;> rfl
  · rename_i ds k n hs hd
    cases h; cases hX
    refine ⟨_, ?_, .str _⟩
    simp only [convert, Sem.run_bind, run_un hs, run_un hd, Result.andThen_ok]
    cases ds <;> rfl
  · cases h

/-! ### Rows as they are read -/
/-- The rows of a slice that is read. -/
def chunk (es : Nat) : Nat → List AV → List (List AV)
  | 0, _ => []
  | n + 1, cs => cs.take es :: chunk es n (cs.drop es)

def rowsOf (H : Hp) : AV → Option (List (List AV))
  | .nils => some []
  | .list _ rows => some rows
  | .row _ l i n => match H[l]? with
    | some (.arr _ _ rows) | some (.frz _ rows) => if i + n ≤ rows.length then some ((rows.drop i).take n) else none
    | _ => none
  | .sub l i k es n => match H[l]? with
    | some (.arr _ _ rows) | some (.frz _ rows) => match rows[i]? with
      | some r => if k + n * es ≤ r.length then some (chunk es n (r.drop k)) else none
      | none => none
    | _ => none
  | _ => none

theorem chunk_length (es : Nat) : ∀ (n : Nat) (cs : List AV), (chunk es n cs).length = n
  | 0, _ => rfl
  | n + 1, cs => by simp [chunk, chunk_length es n]
theorem chunk_get (es : Nat) : ∀ (n : Nat) (cs : List AV) (i : Nat), i < n → (chunk es n cs)[i]? = some ((cs.drop (i * es)).take es)
  | 0, _, _, h => by omega
  | n + 1, cs, 0, _ => by simp [chunk]
  | n + 1, cs, i + 1, h => by
    simp only [chunk, List.getElem?_cons_succ]
    rw [chunk_get es n _ i (by omega), List.drop_drop]
    congr 3
    rw [Nat.add_mul]
    omega

/-- Slices on the machine's side: their elements' cells. -/
def SliceAt (c : Cx) (V : Value) (sz : Nat) (rows : List (List AV)) : Prop :=
  (∃ base cap, V = .slice base 0 cap ∧ rows = []) ∨ ∃ b o cap, V = .slice (some ⟨b, o, none⟩) rows.length cap ∧ ∀ (i : Nat) (r : List AV), rows[i]? = some r → r.length = sz ∧ CellsAt c b (o + i * sz) r

theorem rows_sound {c : Cx} {H : Hp} (s : Sim c H) {x : AV} {X : Value} (hX : Rel c x X) {rows : List (List AV)} (h : rowsOf H x = some rows) {sz : Nat} (hsz : lenOk sz rows = true) : SliceAt c X sz rows := by
  have hlen : ∀ (i : Nat) (r : List AV), rows[i]? = some r → r.length = sz := fun i r hr => by
    have := List.all_eq_true.1 hsz r (List.mem_of_getElem? hr)
    simpa using this
  unfold rowsOf at h
  split at h
  · cases h; cases hX; exact .inl ⟨_, _, rfl, rfl⟩
  · cases h
    cases hX with
    | list _ _ b o sz' cap sp hsp F hb hc ht hs hv h1 h2 =>
      by_cases h0 : rows = []
      · subst h0
        exact .inl ⟨_, _, rfl, rfl⟩
      obtain rfl := hsp.resolve_left h0
      refine .inr ⟨b, o, cap, rfl, fun i r hr => ⟨hlen i r hr, fun j x hx => ?_⟩⟩
      have e : sz' = sz := (hs r (List.mem_of_getElem? hr)).symm.trans (hlen i r hr)
      subst e
      have hj := (List.getElem?_eq_some_iff.1 hx).1
      have := h1 i j (List.getElem?_eq_some_iff.1 hr).1 (by rw [hlen i r hr] at hj; exact hj)
      exact ⟨F i j, this.1, this.2, h2 i r j x hr hx⟩
  · rename_i t l i n
    have key : ∀ {sz' : Nat} {rows0 : List (List AV)}, (∃ T, H[l]? = some (.arr T sz' rows0)) ∨ H[l]? = some (.frz sz' rows0) → (if i + n ≤ rows0.length then some ((rows0.drop i).take n) else none) = some rows → SliceAt c X sz rows := by
      intro sz' rows0 hl h
      split at h
      · rename_i hle
        cases h
        cases hX with
        | row _ _ _ _ cl o cap hρ ho hn ht hlim =>
          have hn' : ((rows0.drop i).take n).length = n := by simp; omega
          refine .inr ⟨cl.blk, o, cap, by rw [hn'], fun q r hr => ⟨hlen q r hr, fun j x hx => ?_⟩⟩
          have hq : q < n := by have := (List.getElem?_eq_some_iff.1 hr).1; omega
          have hr' : rows0[i + q]? = some r := by
            rw [List.getElem?_take, if_pos hq, List.getElem?_drop] at hr
            exact hr
          have ho' : o = cl.base + i * cl.sz := ho
          have fin : ∀ {cells : Array Value} {T : TypeId} {fr : Nat × Nat}, c.w.heap[cl.blk]? = some (.cells cells T fr) → RowsAt c cells cl.base cl.sz rows0 → ∃ V, c.w.cell? ⟨cl.blk, o + q * sz + j, none⟩ = some V ∧ V.oneCell' = true ∧ Rel c x V := by
            intro cells T fr hh hR
            have e : cl.sz = sz := ((hR _ r hr').1).symm.trans (hlen q r hr)
            have := RowsAt.cells (k := 0) hh hR hr' j x (by simpa using hx)
            obtain ⟨V, v1, v2, v3⟩ := this
            refine ⟨V, ?_, v2, v3⟩
            rw [← v1, ho', ← e, Nat.add_mul]
            congr 2
            omega
          rcases hl with ⟨T, hl⟩ | hl
          · obtain ⟨cl', cells, e1, e2, e3, e4, e5, e6, e7⟩ := s.obj l _ hl
            rw [hρ] at e1
            cases e1
            subst e2
            exact fin e3 e7
          · obtain ⟨e0, cl', cells, T, fr, e1, e2, e3, e4, e5, e6⟩ := s.obj l _ hl
            rw [hρ] at e1
            cases e1
            subst e2
            exact fin e3 e6
      · cases h
    split at h
    · rename_i T sz' rows0 hl; exact key (.inl ⟨T, hl⟩) h
    · rename_i sz' rows0 hl; exact key (.inr hl) h
    · cases h
  · rename_i l i k es n
    have key : ∀ {sz' : Nat} {rows0 : List (List AV)}, (∃ T, H[l]? = some (.arr T sz' rows0)) ∨ H[l]? = some (.frz sz' rows0) → (match rows0[i]? with | some r => if k + n * es ≤ r.length then some (chunk es n (r.drop k)) else none | none => none) = some rows → SliceAt c X sz rows := by
      intro sz' rows0 hl h
      split at h
      · rename_i r0 hr0
        split at h
        · rename_i hle
          cases h
          cases hX with
          | sub _ _ _ _ _ cl o cap hρ ho hn =>
            refine .inr ⟨cl.blk, o, cap, by rw [chunk_length], fun q r hr => ⟨hlen q r hr, fun j x hx => ?_⟩⟩
            have hq : q < n := by have := (List.getElem?_eq_some_iff.1 hr).1; rw [chunk_length] at this; exact this
            have ho' := ho.resolve_right (by omega)
            have hl' := hlen q r hr
            rw [chunk_get _ _ _ _ hq] at hr
            cases hr
            have hes : es = sz := by
              rw [← hl', List.length_take, List.length_drop, List.length_drop]
              have := Nat.mul_le_mul_right es (show q + 1 ≤ n by omega)
              rw [Nat.add_mul, Nat.one_mul] at this
              omega
            subst hes
            have fin : ∀ {cells : Array Value} {T : TypeId} {fr : Nat × Nat}, c.w.heap[cl.blk]? = some (.cells cells T fr) → RowsAt c cells cl.base cl.sz rows0 → ∃ V, c.w.cell? ⟨cl.blk, o + q * es + j, none⟩ = some V ∧ V.oneCell' = true ∧ Rel c x V := by
              intro cells T fr hh hR
              rw [List.getElem?_take] at hx
              split at hx
              · rw [List.getElem?_drop, List.getElem?_drop] at hx
                have := RowsAt.cells (k := 0) hh hR hr0 (k + (q * es + j)) x (by simpa using hx)
                obtain ⟨V, v1, v2, v3⟩ := this
                refine ⟨V, ?_, v2, v3⟩
                rw [← v1, ho']
                congr 2
                omega
              · cases hx
            rcases hl with ⟨T, hl⟩ | hl
            · obtain ⟨cl', cells, e1, e2, e3, e4, e5, e6, e7⟩ := s.obj l _ hl
              rw [hρ] at e1
              cases e1
              subst e2
              exact fin e3 e7
            · obtain ⟨e0, cl', cells, T, fr, e1, e2, e3, e4, e5, e6⟩ := s.obj l _ hl
              rw [hρ] at e1
              cases e1
              subst e2
              exact fin e3 e6
        · cases h
      · cases h
    split at h
    · rename_i T sz' rows0 hl; exact key (.inl ⟨T, hl⟩) h
    · rename_i sz' rows0 hl; exact key (.inr hl) h
    · cases h
  · cases h

/-! ### Lengths -/
def vlen (P : Program) (H : Hp) (t : TypeId) (x : AV) : Option AV :=
  match P.underlying t, x with
  | some .string, .str s => some (.int .i64 s.size)
  | some (.array n _), _ => some (.int .i64 n)
  | some (.slice _), .nils => some (.int .i64 0)
  | some (.slice _), .list _ rows => some (.int .i64 rows.length)
  | some (.slice _), .row _ _ _ n => some (.int .i64 n)
  | some (.slice _), .sub _ _ _ _ n => some (.int .i64 n)
  | some (.map _ _), .nilm => some (.int .i64 0)
  | some (.map _ _), .mapr l => match H[l]? with
    | some (.map es) => some (.int .i64 es.length)
    | _ => none
  | _, _ => none

theorem run_getObj_map {P : Program} {w : World} {r : Nat} {ms : Array MapEntry} {clock : Nat} (h : w.heap[r]? = some (.map ms clock)) : (getObj r).run P w = .ok (.map ms clock) w := by
  simp [getObj, Sem.run, h]

theorem len_sound {P : Program} {c : Cx} {H : Hp} (s : Sim c H) {t ty : TypeId} {ts : Array TypeId} {x v : AV} {X : Value} (hts : ts[0]? = some t) (hX : Rel c x X) (h : vlen P H t x = some v) :
    ∃ V, (Builtin.len_ ts ty #[X]).run P c.w = .ok V c.w ∧ Rel c v V := by
  unfold vlen at h
  split at h
  all_goals first | (cases h; done) | skip
  · rename_i s hu; cases h; cases hX; exact ⟨_, by simp [Builtin.len_, hts, run_un hu]; rfl, .int _ _⟩
  · rename_i n e hu; cases h; exact ⟨_, by simp [Builtin.len_, hts, run_un hu]; rfl, .int _ _⟩
  · rename_i e hu; cases h; cases hX; exact ⟨_, by simp [Builtin.len_, hts, run_un hu]; rfl, .int _ _⟩
  · rename_i e tg rows hu; cases h; cases hX; exact ⟨_, by simp [Builtin.len_, hts, run_un hu]; rfl, .int _ _⟩
  · rename_i e t' l i n hu; cases h; cases hX; exact ⟨_, by simp [Builtin.len_, hts, run_un hu]; rfl, .int _ _⟩
  · rename_i e l i k es n hu; cases h; cases hX; exact ⟨_, by simp [Builtin.len_, hts, run_un hu]; rfl, .int _ _⟩
  · rename_i k e hu; cases h; cases hX; exact ⟨_, by simp [Builtin.len_, hts, run_un hu]; rfl, .int _ _⟩
  · rename_i k e l hu
    split at h
    · rename_i es hl
      cases h
      cases hX with
      | mapr _ cl hρ =>
        obtain ⟨cl', ms, e1, e2, e3, e4, e5, e6⟩ := s.obj l _ hl
        rw [hρ] at e1
        cases e1
        refine ⟨.int .i64 es.length, ?_, .int _ _⟩
        simp [Builtin.len_, hts, run_un hu, run_getObj_map e2, goInt, e5]
    · cases h
end Go.Vi
end
section
set_option autoImplicit false
set_option linter.unusedVariables false
set_option linter.unusedSimpArgs false
namespace Go.Vi

def RelO (c : Cx) : Option AV → Option Value → Prop
  | none, none => True
  | some x, some X => Rel c x X
  | _, _ => False

def bnd (x : Option AV) (d : Nat) : Option Nat :=
  match x with
  | none => some d
  | some (.int _ n) => if 0 ≤ n then some n.toNat else none
  | _ => none

/-- Bounds of a cut: from, to, and the capacity's end if it is told. -/
def vbounds (len : Nat) (lo hi mx : Option AV) : Option (Nat × Nat × Option Nat) :=
  match bnd lo 0, bnd hi len, bnd mx len with
  | some l, some h, some m => if l ≤ h ∧ h ≤ m ∧ m ≤ len ∧ (mx.isSome = true → hi.isSome = true) then some (l, h, if mx.isSome then some m else none) else none
  | _, _, _ => none

theorem bnd_sound {P : Program} {c : Cx} {x : Option AV} {X : Option Value} (hX : RelO c x X) {d n : Nat} (h : bnd x d = some n) :
    (X = none ∧ n = d) ∨ ∃ V, X = some V ∧ ∀ (y : Nat) (code : BoundsCode) (w : World), n ≤ y → (Instr.sliceBound V y code).run P w = .ok n w := by
  unfold bnd at h
  split at h
  · cases h
    cases X with
    | none => exact .inl ⟨rfl, rfl⟩
    | some V => exact hX.elim
  · rename_i k q
    split at h
    · rename_i h0
      cases h
      cases X with
      | none => exact hX.elim
      | some V =>
        cases hX
        refine .inr ⟨_, rfl, fun y code w hy => ?_⟩
        have : q ≤ (y : Int) := by omega
        simp [Instr.sliceBound, asIntOf, h0, this]
    · cases h
  · cases h

theorem bounds_sound {P : Program} {c : Cx} {lo hi mx : Option AV} {LO HI MX : Option Value} (h1 : RelO c lo LO) (h2 : RelO c hi HI) (h3 : RelO c mx MX) {len l h : Nat} {mo : Option Nat}
    (hb : vbounds len lo hi mx = some (l, h, mo)) : l ≤ h ∧ h ≤ len ∧ (∀ m, mo = some m → h ≤ m ∧ m ≤ len) ∧ (MX = none → mo = none) ∧
      ∀ (b : Bool) (cap : Nat) (w : World), len ≤ cap → (Instr.sliceBounds b len cap LO HI MX).run P w = .ok (l, h, mo.getD cap) w := by
  unfold vbounds at hb
  split at hb
  · rename_i l' h' m' e1 e2 e3
    split at hb
    · rename_i hc
      obtain ⟨c1, c2, c3, c4⟩ := hc
      cases hb
      refine ⟨c1, by omega, fun m hm => ?_, fun e => ?_, fun b cap w hcap => ?_⟩
      · split at hm
        · cases hm; exact ⟨c2, c3⟩
        · cases hm
      · subst e
        cases mx with
        | none => rfl
        | some x => exact h3.elim
      · have r1 := bnd_sound (P := P) h1 e1
        have r2 := bnd_sound (P := P) h2 e2
        have r3 := bnd_sound (P := P) h3 e3
        unfold Instr.sliceBounds
        have hmx : MX.isSome = mx.isSome := by
          cases mx <;> cases MX <;> first | rfl | exact h3.elim
        have hhi : HI.isSome = hi.isSome := by
          cases hi <;> cases HI <;> first | rfl | exact h2.elim
        rcases r3 with ⟨rfl, e⟩ | ⟨M, rfl, rm⟩
        · rw [← hmx]
          rcases r2 with ⟨rfl, e'⟩ | ⟨Hh, rfl, rh⟩
          · rcases r1 with ⟨rfl, e''⟩ | ⟨L, rfl, rl⟩
            · simp; omega
            · simp [rl _ _ _ (show l ≤ len by omega)]; omega
          · rcases r1 with ⟨rfl, e''⟩ | ⟨L, rfl, rl⟩
            · simp [rh _ _ _ (show h ≤ cap by omega)]; omega
            · simp [rh _ _ _ (show h ≤ cap by omega), rl _ _ _ c1]
        · rw [← hmx]
          have hs := c4 (by rw [← hmx]; rfl)
          rw [← hhi] at hs
          rcases r2 with ⟨rfl, e'⟩ | ⟨Hh, rfl, rh⟩
          · cases hs
          · rcases r1 with ⟨rfl, e''⟩ | ⟨L, rfl, rl⟩
            · simp [rm _ _ _ (show m' ≤ cap by omega), rh _ _ _ c2]; omega
            · simp [rm _ _ _ (show m' ≤ cap by omega), rh _ _ _ c2, rl _ _ _ c1]
    · cases hb
  · cases hb

theorem bounds_sound2 {P : Program} {c : Cx} {lo hi mx : Option AV} {LO HI MX : Option Value} (h1 : RelO c lo LO) (h2 : RelO c hi HI) (h3 : RelO c mx MX) {len l h : Nat} {mo : Option Nat}
    (hb : vbounds len lo hi mx = some (l, h, mo)) (hhs : hi.isSome = true) : l ≤ h ∧ h ≤ len ∧ (∀ m, mo = some m → h ≤ m ∧ m ≤ len) ∧ (MX = none → mo = none) ∧
      ∀ (b : Bool) (n cap : Nat) (w : World), len ≤ cap → (Instr.sliceBounds b n cap LO HI MX).run P w = .ok (l, h, mo.getD cap) w := by
  unfold vbounds at hb
  split at hb
  · rename_i l' h' m' e1 e2 e3
    split at hb
    · rename_i hc
      obtain ⟨c1, c2, c3, c4⟩ := hc
      cases hb
      refine ⟨c1, by omega, fun m hm => ?_, fun e => ?_, fun b n cap w hcap => ?_⟩
      · split at hm
        · cases hm; exact ⟨c2, c3⟩
        · cases hm
      · subst e
        cases mx with
        | none => rfl
        | some x => exact h3.elim
      · have r1 := bnd_sound (P := P) h1 e1
        have r2 := bnd_sound (P := P) h2 e2
        have r3 := bnd_sound (P := P) h3 e3
        unfold Instr.sliceBounds
        have hmx : MX.isSome = mx.isSome := by
          cases mx <;> cases MX <;> first | rfl | exact h3.elim
        have hhi : HI.isSome = hi.isSome := by
          cases hi <;> cases HI <;> first | rfl | exact h2.elim
        rcases r3 with ⟨rfl, e⟩ | ⟨M, rfl, rm⟩
        · rw [← hmx]
          rcases r2 with ⟨rfl, e'⟩ | ⟨Hh, rfl, rh⟩
          · rw [← hhi] at hhs; cases hhs
          · rcases r1 with ⟨rfl, e''⟩ | ⟨L, rfl, rl⟩
            · simp [rh _ _ _ (show h ≤ cap by omega)]; omega
            · simp [rh _ _ _ (show h ≤ cap by omega), rl _ _ _ c1]
        · rw [← hmx]
          have hs := c4 (by rw [← hmx]; rfl)
          rw [← hhi] at hs
          rcases r2 with ⟨rfl, e'⟩ | ⟨Hh, rfl, rh⟩
          · cases hs
          · rcases r1 with ⟨rfl, e''⟩ | ⟨L, rfl, rl⟩
            · simp [rm _ _ _ (show m' ≤ cap by omega), rh _ _ _ c2]; omega
            · simp [rm _ _ _ (show m' ≤ cap by omega), rh _ _ _ c2, rl _ _ _ c1]
    · cases hb
  · cases hb

def cutTag (tg : Tg) (len l h : Nat) (mo : Option Nat) : Tg :=
  if tg = .bor then (if mo = some h ∧ l = h then .tight else .bor)
  else match mo with
    | some m => if m = h then .tight else .loose
    | none => if tg = .tight ∧ h = len then .tight else .loose

def cutT (t : Bool) (len h : Nat) (mo : Option Nat) : Bool :=
  match mo with
  | some m => m == h
  | none => t && h == len

/-- A part of a row: its room ends where the block does; an empty part at the end of what is known is just empty. -/
def cutRow (t : Bool) (n R l0 i l h : Nat) (mo : Option Nat) : AV :=
  match mo with
  | some m => if m = l then .list .tight [] else if t = true ∧ m = n then .row (h == m) l0 (i + l) (h - l) else .undef
  | none => if l < R then .row (t && h == n) l0 (i + l) (h - l) else .list (if t = true then .tight else .loose) []
/-- How far a row's room is known to reach. -/
def rowR (hi : Option AV) (sz n i : Nat) (rows : List (List AV)) : Nat := if hi.isSome = true ∧ sz ≠ 0 then max n (rows.length - i) else n

def vslice (P : Program) (H : Hp) (t : TypeId) (x : AV) (lo hi mx : Option AV) : Option AV :=
  match P.underlying t with
  | some .string => match x, mx with
    | .str s, none => match vbounds s.size lo hi none with
      | some (l, h, _) => some (.str (s.extract l h))
      | none => none
    | _, _ => none
  | some (.slice e) => match szOf P e with
    | none => none
    | some sz => match x with
      | .nils => match vbounds 0 lo hi mx with
        | some _ => some .nils
        | none => none
      | .list tg rows => match vbounds rows.length lo hi mx with
        | some (l, h, mo) => if lenOk sz rows then some (.list (cutTag tg rows.length l h mo) ((rows.drop l).take (h - l))) else none
        | none => none
      | .row tt l0 i n => match H[l0]? with
        | some (.arr _ sz' rows) => match vbounds (rowR hi sz n i rows) lo hi mx with
          | some (l, h, mo) => if sz' = sz then some (cutRow tt n (max n (rowR hi sz n i rows)) l0 i l h mo) else none
          | none => none
        | some (.frz sz' _) => match vbounds n lo hi mx with
          | some (l, h, mo) => if sz' = sz then some (cutRow tt n n l0 i l h mo) else none
          | none => none
        | _ => none
      | .sub l0 i k es n => match vbounds n lo hi mx with
        | some (l, h, _) => if es = sz then some (.sub l0 i (k + l * es) es (h - l)) else none
        | none => none
      | _ => none
  | some (.array n e) => match szOf P e, x with
    | some sz, .ptr l0 i k => match vbounds n lo hi mx with
      | some (l, h, _) => some (.sub l0 i (k + l * sz) sz (h - l))
      | none => none
    | _, _ => none
  | _ => none

theorem slice_sound {P : Program} {c : Cx} {H : Hp} (s : Sim c H) {t : TypeId} {x v : AV} {X : Value} {lo hi mx : Option AV} {LO HI MX : Option Value} (hX : Rel c x X)
    (h1 : RelO c lo LO) (h2 : RelO c hi HI) (h3 : RelO c mx MX) (h : vslice P H t x lo hi mx = some v) : ∃ V, (Instr.sliceAt t X LO HI MX).run P c.w = .ok V c.w ∧ Rel c v V := by
  unfold vslice at h
  split at h
  · rename_i hu
    split at h
    · rename_i sb
      split at h
      · rename_i l hh mo hb
        cases h
        cases hX
        have hM : MX = none := by cases MX with | none => rfl | some V => exact h3.elim
        subst hM
        obtain ⟨b1, b2, b3, b4, run⟩ := bounds_sound (P := P) h1 h2 h3 hb
        refine ⟨_, ?_, .str _⟩
        simp [Instr.sliceAt, Instr.slice, run_un hu, run false sb.size c.w (Nat.le_refl _)]
      · cases h
    · cases h
  · rename_i e hu
    split at h
    · cases h
    · rename_i sz hsz
      split at h
      · split at h
        · rename_i b hb
          obtain ⟨l, hh, mo⟩ := b
          cases h
          cases hX
          obtain ⟨b1, b2, b3, b4, run⟩ := bounds_sound (P := P) h1 h2 h3 hb
          refine ⟨.slice none 0 0, ?_, .nils⟩
          have hm : mo.getD 0 = 0 := by
            cases mo with
            | none => rfl
            | some m => have := b3 m rfl; simp; omega
          simp [Instr.sliceAt, Instr.slice, run_un hu, run true 0 c.w (Nat.le_refl _), run_sz hsz, hm]
          omega
        · cases h
      · rename_i tg rows
        split at h
        · rename_i l hh mo hb
          split at h
          · rename_i hlo
            cases h
            have hX' := hX
            cases hX with
            | list _ _ b o sz' cap sp hsp F hb' hc ht hs hv g1 g2 =>
              obtain ⟨b1, b2, b3, b4, run⟩ := bounds_sound (P := P) h1 h2 h3 hb
              have hcap : hh ≤ mo.getD cap ∧ mo.getD cap ≤ cap := by
                cases mo with
                | none => simp; omega
                | some m => have := b3 m rfl; simp; omega
              by_cases h0 : rows = []
              · subst h0
                have hh0 : hh = 0 := by simp at b2; omega
                have hl0 : l = 0 := by omega
                subst hh0
                subst hl0
                refine ⟨.slice (some ⟨b, o, sp⟩) 0 (mo.getD cap), ?_, ?_⟩
                · simp only [Instr.sliceAt, Instr.slice, run_un hu, Sem.run_bind, Result.andThen_ok, run true cap c.w hc, run_sz hsz]
                  split <;> simp [Addr.add]
                · have := Rel.list (c := c) (cutTag tg 0 0 0 mo) [] b o sz (mo.getD cap) sp (.inl rfl) F (.inl rfl) (by simp) (fun e => ?_) (fun r hr => by cases hr) rfl (fun i j hi hj => by simp at hi) (fun i r j x hr hx => by cases hr)
                  · simpa using this
                  · unfold cutTag at e
                    cases mo with
                    | some m => have := b3 m rfl; simp only [List.length_nil, Option.getD_some] at this ⊢; omega
                    | none =>
                      split at e
                      · split at e
                        · rename_i e2; simp at e2
                        · cases e
                      · simp only at e
                        split at e
                        · rename_i e2; have := ht e2.1; simpa using this
                        · cases e
              obtain rfl := hsp.resolve_left h0
              have hlen : ((rows.drop l).take (hh - l)).length = hh - l := by simp; omega
              refine ⟨.slice (some ⟨b, if mo.getD cap = l then o else o + l * sz, none⟩) (hh - l) (mo.getD cap - l), ?_, ?_⟩
              · simp only [Instr.sliceAt, Instr.slice, run_un hu, Sem.run_bind, Result.andThen_ok, run true cap c.w hc, run_sz hsz]
                split <;> simp [add_spot]
              · have hrow : ∀ i r, ((rows.drop l).take (hh - l))[i]? = some r → rows[l + i]? = some r ∧ i < hh - l := fun i r hr => by
                  have hi : i < hh - l := by have := (List.getElem?_eq_some_iff.1 hr).1; omega
                  rw [List.getElem?_take, if_pos hi, List.getElem?_drop] at hr
                  exact ⟨hr, hi⟩
                have key : ∀ o', (hh - l ≠ 0 → o' = o + l * sz) → Rel c (.list (cutTag tg rows.length l hh mo) ((rows.drop l).take (hh - l))) (.slice (some ⟨b, o', none⟩) ((rows.drop l).take (hh - l)).length (mo.getD cap - l)) := by
                  intro o' ho'
                  refine .list _ _ b o' sz _ none (.inr rfl) (fun i j => F (l + i) j) ?_ (by omega) (fun e => ?_) (fun r hr => ?_) ?_ (fun i j hi hj => ?_) (fun i r j x hr hx => ?_)
                  · by_cases e : hh - l = 0
                    · exact .inl (List.eq_nil_of_length_eq_zero (by omega))
                    · refine .inr ?_
                      have hI : tg.In c b := hb'.resolve_left (fun e2 => by subst e2; simp at b2; omega)
                      unfold cutTag
                      split
                      · rename_i e2
                        rw [if_neg (fun h => e (by omega))]
                        subst e2
                        exact hI
                      · rename_i e2
                        have hI' : c.I b := by cases tg <;> first | exact hI | exact absurd rfl e2
                        split <;> split <;> exact hI'
                  · unfold cutTag at e
                    split at e
                    · split at e
                      · rename_i e3; rw [e3.1, hlen]; rfl
                      · cases e
                    · split at e
                      · split at e
                        · rename_i e3; subst e3; rw [hlen]; rfl
                        · cases e
                      · split at e
                        · rename_i e3
                          rw [hlen, e3.2]
                          have := ht e3.1
                          simp [this]
                        · cases e
                  · have := List.all_eq_true.1 hlo r (List.mem_of_mem_drop (List.mem_of_mem_take hr))
                    simpa using this
                  · exact List.all_eq_true.2 (fun r hr => List.all_eq_true.1 hv r (List.mem_of_mem_drop (List.mem_of_mem_take hr)))
                  · rw [hlen] at hi
                    have hr : rows[l + i]? = some rows[l + i] := List.getElem?_eq_getElem (by omega)
                    have e1 : sz' = sz := by
                      have a1 := hs _ (List.mem_of_getElem? hr)
                      have a2 := List.all_eq_true.1 hlo _ (List.mem_of_getElem? hr)
                      simp at a2
                      omega
                    subst e1
                    have := g1 (l + i) j (by omega) hj
                    rw [ho' (by omega)]
                    rw [Nat.add_mul] at this
                    have e4 : o + l * sz' + i * sz' + j = o + (l * sz' + i * sz') + j := by omega
                    rw [e4]
                    exact this
                  · obtain ⟨hr', _⟩ := hrow i r hr
                    exact g2 _ r j x hr' hx
                have := key (if mo.getD cap = l then o else o + l * sz) (fun hne => by rw [if_neg (by omega)])
                rwa [hlen] at this
          · cases h
        · cases h
      · rename_i tt l0 i n
        have key : ∀ {l hh R0 : Nat} {mo : Option Nat} {sz' : Nat} {rows : List (List AV)}, vbounds R0 lo hi mx = some (l, hh, mo) → (∃ T, H[l0]? = some (.arr T sz' rows)) ∨ H[l0]? = some (.frz sz' rows) → sz' = sz →
            (R0 = n ∨ hi.isSome = true) → (∀ cl o cap, o = cl.base + i * cl.sz → o + cap * cl.sz = cl.lim → c.ρ l0 = some cl → n ≤ cap → R0 ≤ cap) → n ≤ R0 →
            cutRow tt n R0 l0 i l hh mo = v → ∃ V, (Instr.sliceAt t X LO HI MX).run P c.w = .ok V c.w ∧ Rel c v V := by
          intro l hh R0 mo sz' rows hb hl e1 hR hRc hnR hv
          clear h
          subst e1
          subst hv
          cases hX with
          | row _ _ _ _ cl o cap hρ ho hn ht hlim =>
            have hclsz : cl.sz = sz' := obj_sz s hl hρ
            have hR0 := hRc cl o cap ho hlim hρ hn
            have hbs : l ≤ hh ∧ hh ≤ R0 ∧ (∀ m, mo = some m → hh ≤ m ∧ m ≤ R0) ∧ (Instr.sliceBounds true n cap LO HI MX).run P c.w = .ok (l, hh, mo.getD cap) c.w := by
              rcases hR with e | e
              · subst e
                obtain ⟨b1, b2, b3, b4, run⟩ := bounds_sound (P := P) h1 h2 h3 hb
                exact ⟨b1, b2, b3, run true cap c.w hR0⟩
              · obtain ⟨b1, b2, b3, b4, run⟩ := bounds_sound2 (P := P) h1 h2 h3 hb e
                exact ⟨b1, b2, b3, run true n cap c.w hR0⟩
            obtain ⟨b1, b2, b3, run⟩ := hbs
            have hcap : hh ≤ mo.getD cap ∧ mo.getD cap ≤ cap := by
              cases mo with
              | none => simp; omega
              | some m => have := b3 m rfl; simp; omega
            refine ⟨.slice (some ⟨cl.blk, if mo.getD cap = l then o else o + l * sz', none⟩) (hh - l) (mo.getD cap - l), ?_, ?_⟩
            · simp only [Instr.sliceAt, Instr.slice, run_un hu, Sem.run_bind, Result.andThen_ok, run, run_sz hsz]
              split <;> simp [add_spot]
            · have nl : ∀ tg cap', (tg = Tg.tight → cap' = 0) → hh - l = 0 → ∀ o', Rel c (.list tg []) (.slice (some ⟨cl.blk, o', none⟩) (hh - l) cap') := fun tg cap' hc h0 o' => by
                rw [h0]
                exact .list tg [] cl.blk o' sz' cap' none (.inl rfl) (fun _ _ => .nilFunc) (.inl rfl) (Nat.zero_le _) hc (fun r hr => by cases hr) rfl (fun i j hi => by cases hi) (fun i r j x hr => by cases hr)
              have body : ∀ (m : Nat) (b : Bool), mo.getD cap = m → m = cap → l < cap → (b = true → cap = hh) → Rel c (.row b l0 (i + l) (hh - l)) (.slice (some ⟨cl.blk, if mo.getD cap = l then o else o + l * sz', none⟩) (hh - l) (mo.getD cap - l)) := fun m b hm hmc hlc hb => by
                rw [if_neg (by omega), hm, hmc]
                refine .row _ _ _ _ cl _ _ hρ ?_ (by omega) (fun e => ?_) ?_
                · rw [ho, Nat.add_mul, hclsz]; omega
                · have := hb e; omega
                · rw [← hlim, hclsz]
                  have : l * sz' + (cap - l) * sz' = cap * sz' := by rw [← Nat.add_mul]; congr 1; omega
                  omega
              unfold cutRow
              cases mo with
              | some m =>
                simp only
                have := b3 m rfl
                split
                · rename_i e2
                  exact nl _ _ (fun _ => by simp; omega) (by omega) _
                · split
                  · rename_i e3
                    have hct := ht e3.1
                    exact body m _ rfl (by omega) (by omega) (fun e => by simp at e; omega)
                  · exact .undef _
              | none =>
                simp only
                split
                · rename_i e2
                  exact body cap _ rfl rfl (by omega) (fun e => by simp at e; have := ht e.1; omega)
                · rename_i e2
                  refine nl _ _ (fun e => ?_) (by omega) _
                  split at e
                  · rename_i e3
                    have := ht e3
                    simp; omega
                  · cases e
        split at h
        · rename_i T sz' rows hl
          split at h
          · rename_i l hh mo hb
            split at h
            · rename_i e1
              cases h
              by_cases hc : hi.isSome = true ∧ sz ≠ 0
              · have er : rowR hi sz n i rows = max n (rows.length - i) := by rw [rowR, if_pos hc]
                rw [er] at hb
                have em : max n (max n (rows.length - i)) = max n (rows.length - i) := by omega
                refine key hb (.inl ⟨T, hl⟩) e1 (.inr hc.1) (fun cl o cap ho hlim hρ hn => ?_) (by omega) (by rw [er, em])
                have hclsz : cl.sz = sz' := obj_sz s (.inl ⟨T, hl⟩) hρ
                obtain ⟨cl0, cells, e1', e2, e3, e4, e5, e6, e7⟩ := s.obj l0 _ hl
                rw [hρ] at e1'
                cases e1'
                rcases Nat.lt_or_ge i rows.length with hi2 | hi2
                · obtain ⟨g1, g2⟩ := e7 (rows.length - 1) _ (List.getElem?_eq_getElem (by omega))
                  obtain ⟨V, v1, _⟩ := g2 (sz - 1) _ (List.getElem?_eq_getElem (by omega))
                  have hlt := (Array.getElem?_eq_some_iff.1 v1).1
                  have hm : (rows.length - 1) * sz' + sz = rows.length * sz := by
                    rw [e1]
                    obtain ⟨q, hq⟩ : ∃ q, rows.length = q + 1 := ⟨rows.length - 1, by omega⟩
                    rw [hq, Nat.add_sub_cancel, Nat.add_mul]; omega
                  have h6 : cl.base + rows.length * sz ≤ cl.lim := by rw [← e4]; omega
                  have h7 : rows.length * sz ≤ (i + cap) * sz := by
                    rw [Nat.add_mul]
                    rw [ho, hclsz, e1] at hlim
                    omega
                  have := Nat.le_of_mul_le_mul_right h7 (by omega)
                  omega
                · omega
              · have er : rowR hi sz n i rows = n := by rw [rowR, if_neg hc]
                rw [er] at hb
                have em : max n n = n := by omega
                exact key hb (.inl ⟨T, hl⟩) e1 (.inl rfl) (fun cl o cap ho hlim hρ hn => hn) (Nat.le_refl _) (by rw [er, em])
            · cases h
          · cases h
        · rename_i sz' rows hl
          split at h
          · rename_i l hh mo hb
            split at h
            · rename_i e1
              cases h
              exact key hb (.inr hl) e1 (.inl rfl) (fun cl o cap ho hlim hρ hn => hn) (Nat.le_refl _) rfl
            · cases h
          · cases h
        · cases h
      · rename_i l0 i k es n
        split at h
        · rename_i l hh mo hb
          split at h
          · rename_i e1
            cases h
            subst e1
            cases hX with
            | sub _ _ _ _ _ cl o cap hρ ho hn =>
              obtain ⟨b1, b2, b3, b4, run⟩ := bounds_sound (P := P) h1 h2 h3 hb
              have hcap : hh ≤ mo.getD cap := by
                cases mo with
                | none => simp; omega
                | some m => have := b3 m rfl; simp; omega
              refine ⟨.slice (some ⟨cl.blk, if mo.getD cap = l then o else o + l * es, none⟩) (hh - l) (mo.getD cap - l), ?_, ?_⟩
              · simp only [Instr.sliceAt, Instr.slice, run_un hu, Sem.run_bind, Result.andThen_ok, run true cap c.w hn, run_sz hsz]
                split <;> simp [add_spot]
              · refine .sub _ _ _ _ _ cl _ _ hρ ?_ (by omega)
                by_cases e2 : mo.getD cap = l
                · exact .inr (by omega)
                · rw [if_neg e2]
                  rcases ho with ho | ho
                  · exact .inl (by rw [ho]; omega)
                  · exact .inr (by omega)
          · cases h
        · cases h
      · cases h
  · rename_i n e hu
    split at h
    · rename_i sz l0 i k hsz
      split at h
      · rename_i l hh mo hb
        cases h
        cases hX with
        | ptr _ _ _ cl hρ =>
          obtain ⟨b1, b2, b3, b4, run⟩ := bounds_sound (P := P) h1 h2 h3 hb
          have hcap : hh ≤ mo.getD n := by
            cases mo with
            | none => simp; omega
            | some m => have := b3 m rfl; simp; omega
          refine ⟨.slice (some ⟨cl.blk, if mo.getD n = l then cl.base + i * cl.sz + k else cl.base + i * cl.sz + k + l * sz, none⟩) (hh - l) (mo.getD n - l), ?_, ?_⟩
          · simp only [Instr.sliceAt, run_un hu, Sem.run_bind, Result.andThen_ok, Instr.sureAddr, Sem.run_pure, run false n c.w (Nat.le_refl _), run_sz hsz]
            split <;> simp [add_spot]
          · refine .sub _ _ _ _ _ cl _ _ hρ ?_ (by omega)
            by_cases e2 : mo.getD n = l
            · exact .inr (by omega)
            · rw [if_neg e2]
              exact .inl (by omega)
      · cases h
    · cases h
  · cases h
end Go.Vi
end
