/- Vi, part A: abstract values, what they say of the machine's values, what a heap of abstract objects says of the machine's memory. -/
import Derived.WalkKit
set_option autoImplicit false
namespace Go.Vi

/-- What is known of a slice's room: none beyond its end; unknown; lent for the time of a call. -/
inductive Tg | tight | loose | bor
  deriving DecidableEq

/-- Abstract values. A row is an element's cells. -/
inductive AV where
  | undef
  | int (k : IntKind) (n : Int)
  | bool (b : Bool)
  | str (s : ByteArray)
  | nilp
  | ptr (l i k : Nat)
  | iptr (bo : Bool) (cs : List AV)
  | nils
  | list (t : Tg) (rows : List (List AV))
  | row (t : Bool) (l i n : Nat)
  | sub (l i k es n : Nat)
  | agg (cs : List AV)
  | tup (vs : List AV)
  | clo (f : Nat) (caps : List AV)
  | nilf
  | nilm
  | mapr (l : Nat)
  | iface (t : Nat) (v : AV)
  | nili
  deriving Inhabited

/-- Abstract objects: rows that may be written, rows that no one writes any more, maps, none. -/
inductive VO where
  | arr (T : TypeId) (sz : Nat) (rows : List (List AV))
  | frz (sz : Nat) (rows : List (List AV))
  | map (es : List (Int × AV))
  | iter (m n : Nat) (seen : List Nat)
  | one (T : TypeId) (cs : List AV)
  | dead

abbrev Hp := List VO

/-- Where an object lies: block, first cell, cells of a row, cells of the block. -/
structure CL where
  blk : Nat
  base : Nat
  sz : Nat
  lim : Nat

/-- The machine's side: the world, the blocks that stay as they are for ever, those that stay as they are for the time of the call, where objects lie. -/
structure Cx where
  w : World
  I : Nat → Prop
  B : Nat → Prop
  ρ : Nat → Option CL

/-- A cell's value that bears no reference to an object that may change. -/
def AV.isVal : AV → Bool
  | .int .. | .bool _ | .str _ | .nilp | .nils | .iptr false _ | .nilf | .nilm | .nili => true
  | .list t _ => t != .bor
  | .clo _ [] => true
  | _ => false

/-- The same, or lent. -/
def AV.isLent : AV → Bool
  | .iptr _ _ | .list _ _ => true
  | v => v.isVal

def AV.isLeaf : AV → Bool
  | .agg _ | .tup _ | .undef => false
  | _ => true

def allVal (rows : List (List AV)) : Bool := rows.all fun r => r.all AV.isVal

def Tg.In (t : Tg) (c : Cx) (b : Nat) : Prop := match t with | .bor => c.B b | _ => c.I b

/-- What an abstract value says of the machine's. -/
inductive Rel (c : Cx) : AV → Value → Prop where
  | undef (V : Value) : Rel c .undef V
  | int (k : IntKind) (n : Int) : Rel c (.int k n) (.int k n)
  | bool (b : Bool) : Rel c (.bool b) (.bool b)
  | str (s : ByteArray) : Rel c (.str s) (.string s)
  | nilp : Rel c .nilp (.pointer none)
  | ptr (l i k : Nat) (cl : CL) (h : c.ρ l = some cl) : Rel c (.ptr l i k) (.pointer (some ⟨cl.blk, cl.base + i * cl.sz + k, none⟩))
  | iptr (bo : Bool) (cs : List AV) (b o : Nat) (F : Nat → Value) (hb : cs = [] ∨ if bo = true then c.B b else c.I b)
      (hv : ∀ x ∈ cs, x.isVal = true)
      (h1 : ∀ j, j < cs.length → c.w.cell? ⟨b, o + j, none⟩ = some (F j) ∧ (F j).oneCell' = true)
      (h2 : ∀ j x, cs[j]? = some x → Rel c x (F j)) : Rel c (.iptr bo cs) (.pointer (some ⟨b, o, none⟩))
  | nils : Rel c .nils (.slice none 0 0)
  | list (t : Tg) (rows : List (List AV)) (b o sz cap : Nat) (sp : Option Nat) (hsp : rows = [] ∨ sp = none) (F : Nat → Nat → Value) (hb : rows = [] ∨ t.In c b) (hc : rows.length ≤ cap)
      (ht : t = .tight → cap = rows.length) (hsz : ∀ r ∈ rows, r.length = sz) (hv : allVal rows = true)
      (h1 : ∀ i j, i < rows.length → j < sz → c.w.cell? ⟨b, o + i * sz + j, none⟩ = some (F i j) ∧ (F i j).oneCell' = true)
      (h2 : ∀ i r j x, rows[i]? = some r → r[j]? = some x → Rel c x (F i j)) : Rel c (.list t rows) (.slice (some ⟨b, o, sp⟩) rows.length cap)
  | row (t : Bool) (l i n : Nat) (cl : CL) (o cap : Nat) (h : c.ρ l = some cl) (ho : o = cl.base + i * cl.sz) (hn : n ≤ cap)
      (ht : t = true → cap = n) (hl : o + cap * cl.sz = cl.lim) : Rel c (.row t l i n) (.slice (some ⟨cl.blk, o, none⟩) n cap)
  | sub (l i k es n : Nat) (cl : CL) (o cap : Nat) (h : c.ρ l = some cl) (ho : o = cl.base + i * cl.sz + k ∨ n = 0) (hn : n ≤ cap) :
      Rel c (.sub l i k es n) (.slice (some ⟨cl.blk, o, none⟩) n cap)
  | agg (cs : List AV) (Vs : Array Value) (hl : cs.length = Vs.size) (h1 : ∀ (j : Nat) (V : Value), Vs[j]? = some V → V.oneCell' = true)
      (h2 : ∀ (j : Nat) (x : AV) (V : Value), cs[j]? = some x → Vs[j]? = some V → Rel c x V) : Rel c (.agg cs) (.agg Vs)
  | tup (cs : List AV) (Vs : Array Value) (hl : cs.length = Vs.size) (h2 : ∀ (j : Nat) (x : AV) (V : Value), cs[j]? = some x → Vs[j]? = some V → Rel c x V) : Rel c (.tup cs) (.tuple Vs)
  | clo (f : Nat) (cs : List AV) (Vs : Array Value) (hl : cs.length = Vs.size) (h2 : ∀ (j : Nat) (x : AV) (V : Value), cs[j]? = some x → Vs[j]? = some V → Rel c x V) :
      Rel c (.clo f cs) (.func (.func f) #[] Vs)
  | nilf : Rel c .nilf .nilFunc
  | nilm : Rel c .nilm (.map none)
  | mapr (l : Nat) (cl : CL) (h : c.ρ l = some cl) : Rel c (.mapr l) (.map (some cl.blk))
  | iface (t : Nat) (v : AV) (V : Value) (h : Rel c v V) : Rel c (.iface t v) (.iface t V)
  | nili : Rel c .nili .nilIface

/-- Of the machine's side nothing that abstract values lean on has turned. -/
structure Mono (c c' : Cx) : Prop where
  I : ∀ b, c.I b → c'.I b
  B : ∀ b, c.B b → c'.B b
  ρ : ∀ l cl, c.ρ l = some cl → c'.ρ l = some cl
  heap : ∀ b, c.I b ∨ c.B b → c'.w.heap[b]? = c.w.heap[b]?

theorem Mono.refl (c : Cx) : Mono c c := ⟨fun _ h => h, fun _ h => h, fun _ _ h => h, fun _ _ => rfl⟩
theorem Mono.trans {a b c : Cx} (h : Mono a b) (k : Mono b c) : Mono a c :=
  ⟨fun x hx => k.I x (h.I x hx), fun x hx => k.B x (h.B x hx), fun l cl hl => k.ρ l cl (h.ρ l cl hl),
   fun x hx => (k.heap x (hx.imp (h.I x) (h.B x))).trans (h.heap x hx)⟩

theorem cell_of_block {w w' : World} {b o : Nat} (h : w'.heap[b]? = w.heap[b]?) : w'.cell? ⟨b, o, none⟩ = w.cell? ⟨b, o, none⟩ := by
  simp [World.cell?, h]

theorem Tg.In.mono {c c' : Cx} (m : Mono c c') {t : Tg} {b : Nat} (h : t.In c b) : t.In c' b := by
  cases t with
  | bor => exact m.B b h
  | _ => exact m.I b h
theorem Tg.In.or {c : Cx} {t : Tg} {b : Nat} (h : t.In c b) : c.I b ∨ c.B b := by
  cases t with
  | bor => exact .inr h
  | _ => exact .inl h

theorem Rel.mono {c c' : Cx} (m : Mono c c') {v : AV} {V : Value} (h : Rel c v V) : Rel c' v V := by
  induction h with
  | undef V => exact .undef V
  | int k n => exact .int k n
  | bool b => exact .bool b
  | str s => exact .str s
  | nilp => exact .nilp
  | ptr l i k cl h => exact .ptr l i k cl (m.ρ _ _ h)
  | iptr bo cs b o F hb hv h1 h2 ih =>
    refine .iptr bo cs b o F (hb.imp id fun h => ?_) hv (fun j hj => ?_) ih
    · cases bo
      · exact m.I b h
      · exact m.B b h
    · rcases hb with rfl | hb
      · cases hj
      · have hor : c.I b ∨ c.B b := by cases bo <;> first | exact .inl hb | exact .inr hb
        rw [cell_of_block (m.heap b hor)]
        exact h1 j hj
  | nils => exact .nils
  | list t rows b o sz cap sp hsp F hb hc ht hsz hv h1 h2 ih =>
    refine .list t rows b o sz cap sp hsp F (hb.imp id fun h => h.mono m) hc ht hsz hv (fun i j hi hj => ?_) ih
    rcases hb with rfl | hb
    · cases hi
    · rw [cell_of_block (m.heap b hb.or)]
      exact h1 i j hi hj
  | row t l i n cl o cap h ho hn ht hl => exact .row t l i n cl o cap (m.ρ _ _ h) ho hn ht hl
  | sub l i k es n cl o cap h ho hn => exact .sub l i k es n cl o cap (m.ρ _ _ h) ho hn
  | agg cs Vs hl h1 h2 ih => exact .agg cs Vs hl h1 ih
  | tup cs Vs hl h2 ih => exact .tup cs Vs hl ih
  | clo f cs Vs hl h2 ih => exact .clo f cs Vs hl ih
  | nilf => exact .nilf
  | nilm => exact .nilm
  | mapr l cl h => exact .mapr l cl (m.ρ _ _ h)
  | iface t v V h ih => exact .iface t v V ih
  | nili => exact .nili

/-- Of values without references: nothing but what stays for ever counts. -/
structure MonoI (c c' : Cx) : Prop where
  I : ∀ b, c.I b → c'.I b
  heap : ∀ b, c.I b → c'.w.heap[b]? = c.w.heap[b]?

theorem Rel.val {c c' : Cx} (m : MonoI c c') {v : AV} {V : Value} (h : Rel c v V) (hv : v.isVal = true) : Rel c' v V := by
  induction h with
  | int k n => exact .int k n
  | bool b => exact .bool b
  | str s => exact .str s
  | nilp => exact .nilp
  | iptr bo cs b o F hb hv' h1 h2 ih =>
    cases bo with
    | true => cases hv
    | false =>
      refine .iptr false cs b o F (hb.imp id fun h => m.I b h) hv' (fun j hj => ?_) (fun j x hx => ih j x hx (hv' x (List.mem_of_getElem? hx)))
      rcases hb with rfl | hb
      · cases hj
      · rw [cell_of_block (m.heap b hb)]
        exact h1 j hj
  | nils => exact .nils
  | list t rows b o sz cap sp hsp F hb hc ht hsz hv' h1 h2 ih =>
    have htb : t ≠ .bor := by simpa [AV.isVal] using hv
    have hI : rows = [] ∨ c.I b := hb.imp id fun h => by cases t <;> first | exact h | exact absurd rfl htb
    refine .list t rows b o sz cap sp hsp F (hI.imp id fun h => ?_) hc ht hsz hv' (fun i j hi hj => ?_) (fun i r j x hr hx => ih i r j x hr hx ?_)
    · cases t <;> first | exact m.I b h | exact absurd rfl htb
    · rcases hI with rfl | hI
      · cases hi
      · rw [cell_of_block (m.heap b hI)]
        exact h1 i j hi hj
    · exact List.all_eq_true.1 (List.all_eq_true.1 hv' r (List.mem_of_getElem? hr)) x (List.mem_of_getElem? hx)
  | clo f cs Vs hl h2 ih =>
    cases cs with
    | nil => exact .clo f [] Vs hl (fun j x V hx => by cases hx)
    | cons x r => cases hv
  | nilf => exact .nilf
  | nilm => exact .nilm
  | nili => exact .nili
  | undef V => cases hv
  | ptr l i k cl h => cases hv
  | row t l i n cl o cap h ho hn ht hl => cases hv
  | sub l i k es n cl o cap h ho hn => cases hv
  | agg cs Vs hl h1 h2 ih => cases hv
  | tup cs Vs hl h2 ih => cases hv
  | mapr l cl h => cases hv
  | iface t v V h ih => cases hv

/-- Rows of cells as they lie. -/
def RowsAt (c : Cx) (cells : Array Value) (base sz : Nat) (rows : List (List AV)) : Prop :=
  ∀ i r, rows[i]? = some r → r.length = sz ∧ ∀ j x, r[j]? = some x → ∃ V, cells[base + i * sz + j]? = some V ∧ V.oneCell' = true ∧ Rel c x V

theorem RowsAt.mono {c c' : Cx} (m : Mono c c') {cells : Array Value} {base sz : Nat} {rows : List (List AV)} (h : RowsAt c cells base sz rows) : RowsAt c' cells base sz rows :=
  fun i r hr => ⟨(h i r hr).1, fun j x hx => let ⟨V, h1, h2, h3⟩ := (h i r hr).2 j x hx; ⟨V, h1, h2, h3.mono m⟩⟩

def ObjAt (c : Cx) (l : Nat) : VO → Prop
  | .arr T sz rows => ∃ cl cells, c.ρ l = some cl ∧ cl.sz = sz ∧ c.w.heap[cl.blk]? = some (.cells cells T (0, 0)) ∧ cells.size = cl.lim ∧ ¬ c.I cl.blk ∧ ¬ c.B cl.blk ∧ RowsAt c cells cl.base sz rows
  | .frz sz rows => allVal rows = true ∧ ∃ cl cells T fr, c.ρ l = some cl ∧ cl.sz = sz ∧ c.w.heap[cl.blk]? = some (.cells cells T fr) ∧ cells.size = cl.lim ∧ c.I cl.blk ∧ RowsAt c cells cl.base sz rows
  | .one T cs => ∃ cl cells, c.ρ l = some cl ∧ cl.sz = cs.length ∧ c.w.heap[cl.blk]? = some (.cells cells T (0, 0)) ∧ cells.size = cl.lim ∧ ¬ c.I cl.blk ∧ ¬ c.B cl.blk ∧ RowsAt c cells cl.base cs.length [cs] ∧ cl.base = 0 ∧ cl.lim = cs.length
  | .map es => ∃ cl ms, c.ρ l = some cl ∧ c.w.heap[cl.blk]? = some (.map ms es.length) ∧ ¬ c.I cl.blk ∧ ¬ c.B cl.blk ∧ ms.size = es.length ∧
      (∀ (j : Nat) (e : Int × AV), es[j]? = some e → ∃ V, ms[j]? = some ⟨.int .i64 e.1, V, j⟩ ∧ Rel c e.2 V)
  | .iter m n seen => ∃ cl cm, c.ρ l = some cl ∧ cl.base = 0 ∧ c.ρ m = some cm ∧ c.w.heap[cl.blk]? = some (.mapIter (some cm.blk) n seen.toArray n) ∧ ¬ c.I cl.blk ∧ ¬ c.B cl.blk
  | .dead => True

/-- An object that is written: its block is its own. -/
def VO.live : VO → Bool
  | .arr .. | .map _ | .iter .. | .one .. => true
  | _ => false

def live (H : Hp) (l : Nat) : Prop := ∃ o, H[l]? = some o ∧ o.live = true
/-- A block that an object of H owns. -/
def Owned (c : Cx) (H : Hp) (b : Nat) : Prop := ∃ l cl, live H l ∧ c.ρ l = some cl ∧ cl.blk = b

structure Sim (c : Cx) (H : Hp) : Prop where
  bound : ∀ b, c.I b → b < c.w.heap.size
  boundB : ∀ b, c.B b → b < c.w.heap.size
  obj : ∀ l o, H[l]? = some o → ObjAt c l o
  inj : ∀ l l' cl cl', live H l → live H l' → c.ρ l = some cl → c.ρ l' = some cl' → cl.blk = cl'.blk → l = l'
  fresh : ∀ l, H.length ≤ l → c.ρ l = none

/-- What a piece of code from (c, H) to c' leaves alone. -/
structure Ext (c : Cx) (H : Hp) (c' : Cx) : Prop where
  mono : Mono c c'
  size : c.w.heap.size ≤ c'.w.heap.size
  frame : ∀ b, b < c.w.heap.size → ¬ Owned c H b → c'.w.heap[b]? = c.w.heap[b]?
  inew : ∀ b, c'.I b → c.I b ∨ c.w.heap.size ≤ b ∨ Owned c H b
  beq : ∀ b, c'.B b ↔ c.B b
  own : ∀ l cl, c'.ρ l = some cl → c.ρ l = some cl ∨ c.w.heap.size ≤ cl.blk ∨ Owned c H cl.blk
  os : c'.w.os = c.w.os
  tape : c'.w.tape = c.w.tape
  output : c'.w.output = c.w.output

theorem Ext.refl (c : Cx) (H : Hp) : Ext c H c :=
  ⟨Mono.refl c, Nat.le_refl _, fun _ _ _ => rfl, fun _ h => .inl h, fun _ => Iff.rfl, fun _ _ h => .inl h, rfl, rfl, rfl⟩

/-- The owned blocks of a later heap are owned at first, or new. -/
theorem owned_back {c c' : Cx} {H H' : Hp} (e : Ext c H c') (hs : ∀ l, live H' l → l < H.length → live H l) (hf : ∀ l, H.length ≤ l → c.ρ l = none) {b : Nat} (hb : b < c.w.heap.size) (ho : Owned c' H' b) : Owned c H b := by
  obtain ⟨l, cl, hl, hr, rfl⟩ := ho
  rcases e.own l cl hr with h | h | h
  · by_cases hlt : l < H.length
    · exact ⟨l, cl, hs l hl hlt, h, rfl⟩
    · rw [hf l (by omega)] at h; cases h
  · omega
  · exact h
end Go.Vi
