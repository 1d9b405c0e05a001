/- Part of the proofs of the tied cards of Care: the texts ViA ViB ViC ViD ViE ViF ViG ViH ViI ViJ ViK ViS ViL. Conditions: none of its own. -/
import Derived.WalkKit
import Derived.Lib.Builder
import Derived.Lib.UnsafeStr
import Derived.ChangeKeysEq
set_option autoImplicit false
namespace Go.Vi
inductive Tg | tight | loose | bor
 deriving DecidableEq
inductive AV where
 | undef
 | int (k : IntKind) (n : Int)
 | bool (b : Bool)
 | str (s : ByteArray)
 | nilp
 | ptr (l i k : Nat)
 | iptr (bo : Bool) (cs : List AV)
 | nils
 | list (t : Tg) (rows : List (List AV))
 | row (t : Bool) (l i n : Nat)
 | sub (l i k es n : Nat)
 | agg (cs : List AV)
 | tup (vs : List AV)
 | clo (f : Nat) (caps : List AV)
 | nilf
 | nilm
 | mapr (l : Nat)
 | iface (t : Nat) (v : AV)
 | nili
 deriving Inhabited
inductive VO where
 | arr (T : TypeId) (sz : Nat) (rows : List (List AV))
 | frz (sz : Nat) (rows : List (List AV))
 | map (es : List (Int × AV))
 | iter (m n : Nat) (seen : List Nat)
 | one (T : TypeId) (cs : List AV)
 | dead
abbrev Hp := List VO
structure CL where
 blk : Nat
 base : Nat
 sz : Nat
 lim : Nat
structure Cx where
 w : World
 I : Nat → Prop
 B : Nat → Prop
 ρ : Nat → Option CL
def AV.isVal : AV → Bool
 | .int .. | .bool _ | .str _ | .nilp | .nils | .iptr false _ | .nilf | .nilm | .nili => true
 | .list t _ => t != .bor
 | .clo _ [] => true
 | _ => false
def AV.isLent : AV → Bool
 | .iptr _ _ | .list _ _ => true
 | v => v.isVal
def AV.isLeaf : AV → Bool
 | .agg _ | .tup _ | .undef => false
 | _ => true
def allVal (rows : List (List AV)) : Bool := rows.all fun r => r.all AV.isVal
def Tg.In (t : Tg) (c : Cx) (b : Nat) : Prop := match t with | .bor => c.B b | _ => c.I b
inductive Rel (c : Cx) : AV → Value → Prop where
 | undef (V : Value) : Rel c .undef V
 | int (k : IntKind) (n : Int) : Rel c (.int k n) (.int k n)
 | bool (b : Bool) : Rel c (.bool b) (.bool b)
 | str (s : ByteArray) : Rel c (.str s) (.string s)
 | nilp : Rel c .nilp (.pointer none)
 | ptr (l i k : Nat) (cl : CL) (h : c.ρ l = some cl) : Rel c (.ptr l i k) (.pointer (some ⟨cl.blk, cl.base + i * cl.sz + k, none⟩))
 | iptr (bo : Bool) (cs : List AV) (b o : Nat) (F : Nat → Value) (hb : cs = [] ∨ if bo = true then c.B b else c.I b)
  (hv : ∀ x ∈ cs, x.isVal = true)
  (h1 : ∀ j, j < cs.length → c.w.cell? ⟨b, o + j, none⟩ = some (F j) ∧ (F j).oneCell' = true)
  (h2 : ∀ j x, cs[j]? = some x → Rel c x (F j)) : Rel c (.iptr bo cs) (.pointer (some ⟨b, o, none⟩))
 | nils : Rel c .nils (.slice none 0 0)
 | list (t : Tg) (rows : List (List AV)) (b o sz cap : Nat) (sp : Option Nat) (hsp : rows = [] ∨ sp = none) (F : Nat → Nat → Value) (hb : rows = [] ∨ t.In c b) (hc : rows.length ≤ cap)
  (ht : t = .tight → cap = rows.length) (hsz : ∀ r ∈ rows, r.length = sz) (hv : allVal rows = true)
  (h1 : ∀ i j, i < rows.length → j < sz → c.w.cell? ⟨b, o + i * sz + j, none⟩ = some (F i j) ∧ (F i j).oneCell' = true)
  (h2 : ∀ i r j x, rows[i]? = some r → r[j]? = some x → Rel c x (F i j)) : Rel c (.list t rows) (.slice (some ⟨b, o, sp⟩) rows.length cap)
 | row (t : Bool) (l i n : Nat) (cl : CL) (o cap : Nat) (h : c.ρ l = some cl) (ho : o = cl.base + i * cl.sz ∨ cap = 0) (hn : n ≤ cap)
  (ht : t = true → cap = n) (hl : o + cap * cl.sz ≤ cl.lim ∨ cap = 0) : Rel c (.row t l i n) (.slice (some ⟨cl.blk, o, none⟩) n cap)
 | sub (l i k es n : Nat) (cl : CL) (o cap : Nat) (h : c.ρ l = some cl) (ho : o = cl.base + i * cl.sz + k ∨ n = 0) (hn : n ≤ cap) :
  Rel c (.sub l i k es n) (.slice (some ⟨cl.blk, o, none⟩) n cap)
 | agg (cs : List AV) (Vs : Array Value) (hl : cs.length = Vs.size) (h1 : ∀ (j : Nat) (V : Value), Vs[j]? = some V → V.oneCell' = true)
  (h2 : ∀ (j : Nat) (x : AV) (V : Value), cs[j]? = some x → Vs[j]? = some V → Rel c x V) : Rel c (.agg cs) (.agg Vs)
 | tup (cs : List AV) (Vs : Array Value) (hl : cs.length = Vs.size) (h2 : ∀ (j : Nat) (x : AV) (V : Value), cs[j]? = some x → Vs[j]? = some V → Rel c x V) : Rel c (.tup cs) (.tuple Vs)
 | clo (f : Nat) (cs : List AV) (Vs : Array Value) (hl : cs.length = Vs.size) (h2 : ∀ (j : Nat) (x : AV) (V : Value), cs[j]? = some x → Vs[j]? = some V → Rel c x V) :
  Rel c (.clo f cs) (.func (.func f) #[] Vs)
 | nilf : Rel c .nilf .nilFunc
 | nilm : Rel c .nilm (.map none)
 | mapr (l : Nat) (cl : CL) (h : c.ρ l = some cl) : Rel c (.mapr l) (.map (some cl.blk))
 | iface (t : Nat) (v : AV) (V : Value) (h : Rel c v V) : Rel c (.iface t v) (.iface t V)
 | nili : Rel c .nili .nilIface
structure Mono (c c' : Cx) : Prop where
 I : ∀ b, c.I b → c'.I b
 B : ∀ b, c.B b → c'.B b
 ρ : ∀ l cl, c.ρ l = some cl → c'.ρ l = some cl
 heap : ∀ b, c.I b ∨ c.B b → c'.w.heap[b]? = c.w.heap[b]?
theorem Mono.refl (c : Cx) : Mono c c := ⟨fun _ h => h, fun _ h => h, fun _ _ h => h, fun _ _ => rfl⟩
theorem Mono.trans {a b c : Cx} (h : Mono a b) (k : Mono b c) : Mono a c :=
 ⟨fun x hx => k.I x (h.I x hx), fun x hx => k.B x (h.B x hx), fun l cl hl => k.ρ l cl (h.ρ l cl hl),
  fun x hx => (k.heap x (hx.imp (h.I x) (h.B x))).trans (h.heap x hx)⟩
theorem cell_of_block {w w' : World} {b o : Nat} (h : w'.heap[b]? = w.heap[b]?) : w'.cell? ⟨b, o, none⟩ = w.cell? ⟨b, o, none⟩ := by
 simp [World.cell?, h]
theorem Tg.In.mono {c c' : Cx} (m : Mono c c') {t : Tg} {b : Nat} (h : t.In c b) : t.In c' b := by
 cases t with
 | bor => exact m.B b h
 | _ => exact m.I b h
theorem Tg.In.or {c : Cx} {t : Tg} {b : Nat} (h : t.In c b) : c.I b ∨ c.B b := by
 cases t with
 | bor => exact .inr h
 | _ => exact .inl h
theorem Rel.mono {c c' : Cx} (m : Mono c c') {v : AV} {V : Value} (h : Rel c v V) : Rel c' v V := by
 induction h with
 | undef V => exact .undef V
 | int k n => exact .int k n
 | bool b => exact .bool b
 | str s => exact .str s
 | nilp => exact .nilp
 | ptr l i k cl h => exact .ptr l i k cl (m.ρ _ _ h)
 | iptr bo cs b o F hb hv h1 h2 ih =>
   refine .iptr bo cs b o F (hb.imp id fun h => ?_) hv (fun j hj => ?_) ih
   · cases bo
     · exact m.I b h
     exact m.B b h
   rcases hb with rfl | hb
   · cases hj
   have hor : c.I b ∨ c.B b := by cases bo <;> first | exact .inl hb | exact .inr hb
   rw [cell_of_block (m.heap b hor)]
   exact h1 j hj
 | nils => exact .nils
 | list t rows b o sz cap sp hsp F hb hc ht hsz hv h1 h2 ih =>
   refine .list t rows b o sz cap sp hsp F (hb.imp id fun h => h.mono m) hc ht hsz hv (fun i j hi hj => ?_) ih
   rcases hb with rfl | hb
   · cases hi
   rw [cell_of_block (m.heap b hb.or)]
   exact h1 i j hi hj
 | row t l i n cl o cap h ho hn ht hl => exact .row t l i n cl o cap (m.ρ _ _ h) ho hn ht hl
 | sub l i k es n cl o cap h ho hn => exact .sub l i k es n cl o cap (m.ρ _ _ h) ho hn
 | agg cs Vs hl h1 h2 ih => exact .agg cs Vs hl h1 ih
 | tup cs Vs hl h2 ih => exact .tup cs Vs hl ih
 | clo f cs Vs hl h2 ih => exact .clo f cs Vs hl ih
 | nilf => exact .nilf
 | nilm => exact .nilm
 | mapr l cl h => exact .mapr l cl (m.ρ _ _ h)
 | iface t v V h ih => exact .iface t v V ih
 | nili => exact .nili
structure MonoI (c c' : Cx) : Prop where
 I : ∀ b, c.I b → c'.I b
 heap : ∀ b, c.I b → c'.w.heap[b]? = c.w.heap[b]?
theorem Rel.val {c c' : Cx} (m : MonoI c c') {v : AV} {V : Value} (h : Rel c v V) (hv : v.isVal = true) : Rel c' v V := by
 induction h with
 | int k n => exact .int k n
 | bool b => exact .bool b
 | str s => exact .str s
 | nilp => exact .nilp
 | iptr bo cs b o F hb hv' h1 h2 ih =>
   cases bo with
   | true => cases hv
   | false =>
     refine .iptr false cs b o F (hb.imp id fun h => m.I b h) hv' (fun j hj => ?_) (fun j x hx => ih j x hx (hv' x (List.mem_of_getElem? hx)))
     rcases hb with rfl | hb
     · cases hj
     rw [cell_of_block (m.heap b hb)]
     exact h1 j hj
 | nils => exact .nils
 | list t rows b o sz cap sp hsp F hb hc ht hsz hv' h1 h2 ih =>
   have htb : t ≠ .bor := by simpa [AV.isVal] using hv
   have hI : rows = [] ∨ c.I b := hb.imp id fun h => by cases t <;> first | exact h | exact absurd rfl htb
   refine .list t rows b o sz cap sp hsp F (hI.imp id fun h => ?_) hc ht hsz hv' (fun i j hi hj => ?_) (fun i r j x hr hx => ih i r j x hr hx ?_)
   · cases t <;> first | exact m.I b h | exact absurd rfl htb
   · rcases hI with rfl | hI
     · cases hi
     rw [cell_of_block (m.heap b hI)]
     exact h1 i j hi hj
   exact List.all_eq_true.1 (List.all_eq_true.1 hv' r (List.mem_of_getElem? hr)) x (List.mem_of_getElem? hx)
 | clo f cs Vs hl h2 ih =>
   cases cs with
   | nil => exact .clo f [] Vs hl (fun j x V hx => by cases hx)
   | cons x r => cases hv
 | nilf => exact .nilf
 | nilm => exact .nilm
 | nili => exact .nili
 | undef V => cases hv
 | ptr l i k cl h => cases hv
 | row t l i n cl o cap h ho hn ht hl => cases hv
 | sub l i k es n cl o cap h ho hn => cases hv
 | agg cs Vs hl h1 h2 ih => cases hv
 | tup cs Vs hl h2 ih => cases hv
 | mapr l cl h => cases hv
 | iface t v V h ih => cases hv
def RowsAt (c : Cx) (cells : Array Value) (base sz : Nat) (rows : List (List AV)) : Prop :=
 ∀ i r, rows[i]? = some r → r.length = sz ∧ ∀ j x, r[j]? = some x → ∃ V, cells[base + i * sz + j]? = some V ∧ V.oneCell' = true ∧ Rel c x V
theorem RowsAt.mono {c c' : Cx} (m : Mono c c') {cells : Array Value} {base sz : Nat} {rows : List (List AV)} (h : RowsAt c cells base sz rows) : RowsAt c' cells base sz rows :=
 fun i r hr => ⟨(h i r hr).1, fun j x hx => let ⟨V, h1, h2, h3⟩ := (h i r hr).2 j x hx; ⟨V, h1, h2, h3.mono m⟩⟩
def ObjAt (c : Cx) (l : Nat) : VO → Prop
 | .arr T sz rows => ∃ cl cells, c.ρ l = some cl ∧ cl.sz = sz ∧ c.w.heap[cl.blk]? = some (.cells cells T (0, 0)) ∧ cells.size = cl.lim ∧ ¬ c.I cl.blk ∧ ¬ c.B cl.blk ∧ RowsAt c cells cl.base sz rows
 | .frz sz rows => allVal rows = true ∧ ∃ cl cells T fr, c.ρ l = some cl ∧ cl.sz = sz ∧ c.w.heap[cl.blk]? = some (.cells cells T fr) ∧ cells.size = cl.lim ∧ c.I cl.blk ∧ RowsAt c cells cl.base sz rows
 | .one T cs => ∃ cl cells, c.ρ l = some cl ∧ cl.sz = cs.length ∧ c.w.heap[cl.blk]? = some (.cells cells T (0, 0)) ∧ cells.size = cl.lim ∧ ¬ c.I cl.blk ∧ ¬ c.B cl.blk ∧ RowsAt c cells cl.base cs.length [cs] ∧ cl.base = 0 ∧ cl.lim = cs.length
 | .map es => ∃ cl ms, c.ρ l = some cl ∧ c.w.heap[cl.blk]? = some (.map ms es.length) ∧ ¬ c.I cl.blk ∧ ¬ c.B cl.blk ∧ ms.size = es.length ∧
  (∀ (j : Nat) (e : Int × AV), es[j]? = some e → ∃ V, ms[j]? = some ⟨.int .i64 e.1, V, j⟩ ∧ Rel c e.2 V)
 | .iter m n seen => ∃ cl cm, c.ρ l = some cl ∧ cl.base = 0 ∧ c.ρ m = some cm ∧ c.w.heap[cl.blk]? = some (.mapIter (some cm.blk) n seen.toArray n) ∧ ¬ c.I cl.blk ∧ ¬ c.B cl.blk
 | .dead => True
def VO.live : VO → Bool
 | .arr .. | .map _ | .iter .. | .one .. => true
 | _ => false
def live (H : Hp) (l : Nat) : Prop := ∃ o, H[l]? = some o ∧ o.live = true
def Owned (c : Cx) (H : Hp) (b : Nat) : Prop := ∃ l cl, live H l ∧ c.ρ l = some cl ∧ cl.blk = b
structure Sim (c : Cx) (H : Hp) : Prop where
 bound : ∀ b, c.I b → b < c.w.heap.size
 boundB : ∀ b, c.B b → b < c.w.heap.size
 obj : ∀ l o, H[l]? = some o → ObjAt c l o
 inj : ∀ l l' cl cl', live H l → live H l' → c.ρ l = some cl → c.ρ l' = some cl' → cl.blk = cl'.blk → l = l'
 fresh : ∀ l, H.length ≤ l → c.ρ l = none
structure Ext (c : Cx) (H : Hp) (c' : Cx) : Prop where
 mono : Mono c c'
 size : c.w.heap.size ≤ c'.w.heap.size
 frame : ∀ b, b < c.w.heap.size → ¬ Owned c H b → c'.w.heap[b]? = c.w.heap[b]?
 inew : ∀ b, c'.I b → c.I b ∨ c.w.heap.size ≤ b ∨ Owned c H b
 beq : ∀ b, c'.B b ↔ c.B b
 own : ∀ l cl, c'.ρ l = some cl → c.ρ l = some cl ∨ c.w.heap.size ≤ cl.blk ∨ Owned c H cl.blk
 os : c'.w.os = c.w.os
 tape : c'.w.tape = c.w.tape
 output : c'.w.output = c.w.output
theorem Ext.refl (c : Cx) (H : Hp) : Ext c H c :=
 ⟨Mono.refl c, Nat.le_refl _, fun _ _ _ => rfl, fun _ h => .inl h, fun _ => Iff.rfl, fun _ _ h => .inl h, rfl, rfl, rfl⟩
theorem owned_back {c c' : Cx} {H H' : Hp} (e : Ext c H c') (hs : ∀ l, live H' l → l < H.length → live H l) (hf : ∀ l, H.length ≤ l → c.ρ l = none) {b : Nat} (hb : b < c.w.heap.size) (ho : Owned c' H' b) : Owned c H b := by
 obtain ⟨l, cl, hl, hr, rfl⟩ := ho
 rcases e.own l cl hr with h | h | h
 · by_cases hlt : l < H.length
   · exact ⟨l, cl, hs l hl hlt, h, rfl⟩
   rw [hf l (by omega)] at h; cases h
 · omega
 exact h
end Go.Vi
namespace Go.Vi
structure To (c : Cx) (H : Hp) (c' : Cx) (H' : Hp) : Prop where
 ext : Ext c H c'
 sim : Sim c' H'
 len : H.length ≤ H'.length
 liv : ∀ l, l < H.length → live H' l → live H l
theorem To.refl {c : Cx} {H : Hp} (s : Sim c H) : To c H c H := ⟨Ext.refl c H, s, Nat.le_refl _, fun _ _ h => h⟩
theorem Owned.back {c c' : Cx} {H H' : Hp} (s : Sim c H) (t : To c H c' H') {b : Nat} (hb : b < c.w.heap.size) (ho : Owned c' H' b) : Owned c H b :=
 owned_back t.ext (fun l h h' => t.liv l h' h) s.fresh hb ho
theorem To.trans {a b c : Cx} {H1 H2 H3 : Hp} (s : Sim a H1) (h : To a H1 b H2) (k : To b H2 c H3) : To a H1 c H3 := by
 refine ⟨⟨h.ext.mono.trans k.ext.mono, Nat.le_trans h.ext.size k.ext.size, fun x hx hn => ?_, fun x hx => ?_, fun x => (k.ext.beq x).trans (h.ext.beq x), fun l cl hl => ?_,
  k.ext.os.trans h.ext.os, k.ext.tape.trans h.ext.tape, k.ext.output.trans h.ext.output⟩, k.sim, Nat.le_trans h.len k.len, fun l hl hv => h.liv l hl (k.liv l (Nat.lt_of_lt_of_le hl h.len) hv)⟩
 · rw [k.ext.frame x (Nat.lt_of_lt_of_le hx h.ext.size) (fun ho => hn (Owned.back s h hx ho)), h.ext.frame x hx hn]
 · rcases k.ext.inew x hx with h1 | h1 | h1
   · exact h.ext.inew x h1
   · exact .inr (.inl (Nat.le_trans h.ext.size h1))
   by_cases hlt : x < a.w.heap.size
   · exact .inr (.inr (Owned.back s h hlt h1))
   exact .inr (.inl (by omega))
 rcases k.ext.own l cl hl with h1 | h1 | h1
 · exact h.ext.own l cl h1
 · exact .inr (.inl (Nat.le_trans h.ext.size h1))
 by_cases hlt : cl.blk < a.w.heap.size
 · exact .inr (.inr (Owned.back s h hlt h1))
 exact .inr (.inl (by omega))
theorem ObjAt.keep {c c' : Cx} {l : Nat} {o : VO} (m : Mono c c') (hI : ∀ cl, c.ρ l = some cl → o.live = true → (c'.I cl.blk → c.I cl.blk)) (hB : ∀ b, c'.B b → c.B b)
 (hh : ∀ cl, c.ρ l = some cl → o.live = true → c'.w.heap[cl.blk]? = c.w.heap[cl.blk]?) (h : ObjAt c l o) : ObjAt c' l o := by
 cases o with
 | arr T sz rows =>
   obtain ⟨cl, cells, h1, h2, h3, h4, h5, h6, h7⟩ := h
   exact ⟨cl, cells, m.ρ _ _ h1, h2, (hh cl h1 rfl).trans h3, h4, fun hi => h5 (hI cl h1 rfl hi), fun hb => h6 (hB _ hb), h7.mono m⟩
 | frz sz rows =>
   obtain ⟨h0, cl, cells, T, fr, h1, h2, h3, h4, h5, h6⟩ := h
   exact ⟨h0, cl, cells, T, fr, m.ρ _ _ h1, h2, (m.heap _ (.inl h5)).trans h3, h4, m.I _ h5, h6.mono m⟩
 | one T cs =>
   obtain ⟨cl, cells, h1, h2, h3, h4, h5, h6, h7, h8, h9⟩ := h
   exact ⟨cl, cells, m.ρ _ _ h1, h2, (hh cl h1 rfl).trans h3, h4, fun hi => h5 (hI cl h1 rfl hi), fun hb => h6 (hB _ hb), h7.mono m, h8, h9⟩
 | map es =>
   obtain ⟨cl, ms, h1, h2, h3, h4, h5, h6⟩ := h
   exact ⟨cl, ms, m.ρ _ _ h1, (hh cl h1 rfl).trans h2, fun hi => h3 (hI cl h1 rfl hi), fun hb => h4 (hB _ hb), h5, fun j e he => let ⟨V, a, b⟩ := h6 j e he; ⟨V, a, b.mono m⟩⟩
 | iter mm n seen =>
   obtain ⟨cl, cm, h1, h2, h3, h4, h5, h6⟩ := h
   exact ⟨cl, cm, m.ρ _ _ h1, h2, m.ρ _ _ h3, (hh cl h1 rfl).trans h4, fun hi => h5 (hI cl h1 rfl hi), fun hb => h6 (hB _ hb)⟩
 | dead => trivial
theorem live_of {H : Hp} {l : Nat} {o : VO} (h : H[l]? = some o) (ho : o.live = true) : live H l := ⟨o, h, ho⟩
theorem ObjAt.some {c : Cx} {l : Nat} {o : VO} (h : ObjAt c l o) (hl : o.live = true) : ∃ cl, c.ρ l = .some cl ∧ ¬ c.I cl.blk ∧ ¬ c.B cl.blk ∧ ∃ ob, c.w.heap[cl.blk]? = .some ob := by
 cases o with
 | arr T sz rows => obtain ⟨cl, cells, h1, h2, h3, h4, h5, h6, h7⟩ := h; exact ⟨cl, h1, h5, h6, _, h3⟩
 | one T cs => obtain ⟨cl, cells, h1, h2, h3, h4, h5, h6, h7⟩ := h; exact ⟨cl, h1, h5, h6, _, h3⟩
 | frz sz rows => cases hl
 | map es => obtain ⟨cl, ms, h1, h2, h3, h4, h5, h6⟩ := h; exact ⟨cl, h1, h3, h4, _, h2⟩
 | iter m n seen => obtain ⟨cl, cm, h1, h2, h3, h4, h5, h6⟩ := h; exact ⟨cl, h1, h5, h6, _, h4⟩
 | dead => cases hl
theorem Sim.lt {c : Cx} {H : Hp} (s : Sim c H) {l : Nat} {cl : CL} (hl : live H l) (hr : c.ρ l = some cl) : cl.blk < c.w.heap.size := by
 obtain ⟨o, ho, hv⟩ := hl
 obtain ⟨cl', h1, _, _, ob, h2⟩ := (s.obj l o ho).some hv
 rw [hr] at h1
 cases h1
 exact (Array.getElem?_eq_some_iff.1 h2).1
theorem To.world {c : Cx} {H : Hp} (s : Sim c H) {w' : World} (hh : w'.heap = c.w.heap) (ho : w'.os = c.w.os) (ht : w'.tape = c.w.tape) (hu : w'.output = c.w.output) :
 To c H { c with w := w' } H := by
 have m : Mono c { c with w := w' } := ⟨fun _ h => h, fun _ h => h, fun _ _ h => h, fun b _ => by rw [hh]⟩
 refine ⟨⟨m, by simp [hh], fun b _ _ => by simp [hh], fun _ h => .inl h, fun _ => Iff.rfl, fun _ _ h => .inl h, ho, ht, hu⟩, ⟨fun b hb => by simp only [hh]; exact s.bound b hb, fun b hb => by simp only [hh]; exact s.boundB b hb, fun l o h => ?_, s.inj, s.fresh⟩, Nat.le_refl _, fun _ _ h => h⟩
 exact (s.obj l o h).keep m (fun _ _ _ h => h) (fun _ h => h) (fun cl _ _ => by simp [hh])
def updρ (ρ : Nat → Option CL) (l : Nat) (cl : CL) : Nat → Option CL := fun l' => if l' = l then some cl else ρ l'
theorem heap_push {w : World} {o : Obj} {b : Nat} (h : b < w.heap.size) : (w.heap.push o)[b]? = w.heap[b]? := by
 rw [Array.getElem?_push, if_neg (by omega)]
theorem To.new {c : Cx} {H : Hp} (s : Sim c H) (o : VO) (ob : Obj) (cl : CL) (hb : cl.blk = c.w.heap.size)
 (ho : ∀ c' : Cx, Mono c c' → c'.ρ H.length = some cl → c'.w.heap[cl.blk]? = some ob → ¬ c'.I cl.blk → ¬ c'.B cl.blk → ObjAt c' H.length o) :
 To c H { c with w := c.w.alloc ob, ρ := updρ c.ρ H.length cl } (H ++ [o]) := by
 have hI : ¬ c.I cl.blk := fun h => by have := s.bound _ h; omega
 have hB : ¬ c.B cl.blk := fun h => by have := s.boundB _ h; omega
 have hρ : ∀ l, l < H.length → updρ c.ρ H.length cl l = c.ρ l := fun l h => by simp [updρ]; omega
 have m : Mono c { c with w := c.w.alloc ob, ρ := updρ c.ρ H.length cl } := by
  refine ⟨fun _ h => h, fun _ h => h, fun l cl' h => ?_, fun b h => ?_⟩
  · have : l ≠ H.length := fun e => by rw [e, s.fresh _ (Nat.le_refl _)] at h; cases h
    simp [updρ, this, h]
  have hlt : b < c.w.heap.size := h.elim (s.bound b) (s.boundB b)
  exact heap_push hlt
 have hlast : (c.w.alloc ob).heap[cl.blk]? = some ob := by
  show (c.w.heap.push ob)[cl.blk]? = _
  rw [hb]
  simp
 have hsize : (c.w.alloc ob).heap.size = c.w.heap.size + 1 := by
  show (c.w.heap.push ob).size = _
  simp
 have lv : ∀ l, l < H.length → live (H ++ [o]) l → live H l := fun l hl ⟨o', h1, h2⟩ => ⟨o', by rwa [List.getElem?_append_left hl] at h1, h2⟩
 refine ⟨⟨m, by simp only [hsize]; omega, fun b hlt _ => heap_push hlt, fun _ h => .inl h, fun _ => Iff.rfl, fun l cl' h => ?_, rfl, rfl, rfl⟩, ⟨fun b h => ?_, fun b h => ?_, fun l o' h => ?_, fun l l' cl1 cl2 h1 h2 h3 h4 h5 => ?_, fun l h => ?_⟩, by simp, lv⟩
 · by_cases e : l = H.length
   · subst e
     simp [updρ] at h
     subst h
     exact .inr (.inl (by omega))
   simp [updρ, e] at h
   exact .inl h
 · have := s.bound b h; simp only [hsize]; omega
 · have := s.boundB b h; simp only [hsize]; omega
 · by_cases hl : l < H.length
   · rw [List.getElem?_append_left hl] at h
     have h0 := s.obj l o' h
     refine h0.keep m (fun _ _ _ h => h) (fun _ h => h) (fun cl' hr hv => heap_push (s.lt (live_of h hv) hr))
   have e : l = H.length := by
    have := (List.getElem?_eq_some_iff.1 h).1
    simp at this
    omega
   subst e
   simp at h
   subst h
   exact ho _ m (by simp [updρ]) hlast hI hB
 · have old : ∀ l cl', l < H.length → live (H ++ [o]) l → updρ c.ρ H.length cl l = some cl' → live H l ∧ c.ρ l = some cl' ∧ cl'.blk < c.w.heap.size := fun l cl' hl hv hr => by
    rw [hρ l hl] at hr
    exact ⟨lv l hl hv, hr, s.lt (lv l hl hv) hr⟩
   have new : ∀ l cl', ¬ l < H.length → live (H ++ [o]) l → updρ c.ρ H.length cl l = some cl' → l = H.length ∧ cl' = cl := fun l cl' hl ⟨o', hv, _⟩ hr => by
    have e : l = H.length := by
     have := (List.getElem?_eq_some_iff.1 hv).1
     simp at this
     omega
    subst e
    simp [updρ] at hr
    exact ⟨rfl, hr.symm⟩
   by_cases hl : l < H.length <;> by_cases hl' : l' < H.length
   · obtain ⟨a1, a2, _⟩ := old l cl1 hl h1 h3
     obtain ⟨b1, b2, _⟩ := old l' cl2 hl' h2 h4
     exact s.inj l l' cl1 cl2 a1 b1 a2 b2 h5
   · obtain ⟨_, _, a3⟩ := old l cl1 hl h1 h3
     obtain ⟨_, rfl⟩ := new l' cl2 hl' h2 h4
     omega
   · obtain ⟨_, _, a3⟩ := old l' cl2 hl' h2 h4
     obtain ⟨_, rfl⟩ := new l cl1 hl h1 h3
     omega
   rw [(new l cl1 hl h1 h3).1, (new l' cl2 hl' h2 h4).1]
 simp at h
 have e : l ≠ H.length := by omega
 simp [updρ, e]
 exact s.fresh l (by omega)
theorem To.write {c : Cx} {H : Hp} (s : Sim c H) {l : Nat} {cl : CL} (hl : live H l) (hr : c.ρ l = some cl) (o' : VO) {w' : World} (hsz : w'.heap.size = c.w.heap.size)
 (hh : ∀ b, b ≠ cl.blk → w'.heap[b]? = c.w.heap[b]?) (h1 : w'.os = c.w.os) (h2 : w'.tape = c.w.tape) (h3 : w'.output = c.w.output)
 (ho : Mono c { c with w := w' } → ObjAt { c with w := w' } l o') : To c H { c with w := w' } (H.set l o') := by
 obtain ⟨o, hlo, hv⟩ := hl
 obtain ⟨cl', e1, hI, hB, _⟩ := (s.obj l o hlo).some hv
 rw [hr] at e1
 cases e1
 have hlen : l < H.length := (List.getElem?_eq_some_iff.1 hlo).1
 have m : Mono c { c with w := w' } := ⟨fun _ h => h, fun _ h => h, fun _ _ h => h, fun b h => hh b (fun e => by subst e; exact h.elim hI hB)⟩
 have lv : ∀ k, live (H.set l o') k → live H k := fun k ⟨o2, h, hv2⟩ => by
  by_cases e : k = l
  · subst e
    exact ⟨o, hlo, hv⟩
  rw [List.getElem?_set_ne (Ne.symm e)] at h
  exact ⟨o2, h, hv2⟩
 refine ⟨⟨m, by simp [hsz], fun b hb hn => hh b (fun e => hn ⟨l, cl, ⟨o, hlo, hv⟩, hr, e.symm⟩), fun _ h => .inl h, fun _ => Iff.rfl, fun _ _ h => .inl h, h1, h2, h3⟩, ⟨fun b hb => ?_, fun b hb => ?_, fun k o2 h => ?_, fun a b c1 c2 ha hb => s.inj a b c1 c2 (lv a ha) (lv b hb), fun k hk => s.fresh k (by simpa using hk)⟩, by simp, fun k _ h => lv k h⟩
 · simp only [hsz]; exact s.bound b hb
 · simp only [hsz]; exact s.boundB b hb
 by_cases e : k = l
 · subst e
   rw [List.getElem?_set_self hlen] at h
   cases h
   exact ho m
 rw [List.getElem?_set_ne (Ne.symm e)] at h
 exact (s.obj k o2 h).keep m (fun _ _ _ h => h) (fun _ h => h) (fun cl2 hr2 hv2 => hh _ (fun e2 => e (s.inj k l cl2 cl (live_of h hv2) ⟨o, hlo, hv⟩ hr2 hr e2)))
theorem To.freeze {c : Cx} {H : Hp} (s : Sim c H) {T : TypeId} {l sz : Nat} {rows : List (List AV)} (hl : H[l]? = some (.arr T sz rows)) (hv : allVal rows = true) :
 ∃ cl, c.ρ l = some cl ∧ To c H { c with I := fun b => c.I b ∨ b = cl.blk } (H.set l (.frz sz rows)) := by
 obtain ⟨cl, cells, e1, e2, e3, e4, e5, e6, e7⟩ := s.obj l _ hl
 refine ⟨cl, e1, ?_⟩
 have hlen : l < H.length := (List.getElem?_eq_some_iff.1 hl).1
 have m : Mono c { c with I := fun b => c.I b ∨ b = cl.blk } := ⟨fun _ h => .inl h, fun _ h => h, fun _ _ h => h, fun _ _ => rfl⟩
 have lv : ∀ k, live (H.set l (.frz sz rows)) k → k ≠ l ∧ live H k := fun k ⟨o2, h, hv2⟩ => by
  by_cases e : k = l
  · subst e
    rw [List.getElem?_set_self hlen] at h
    cases h
    cases hv2
  rw [List.getElem?_set_ne (Ne.symm e)] at h
  exact ⟨e, o2, h, hv2⟩
 have hlt : cl.blk < c.w.heap.size := (Array.getElem?_eq_some_iff.1 e3).1
 refine ⟨⟨m, Nat.le_refl _, fun b hb hn => rfl, fun b h => h.elim .inl (fun e => .inr (.inr ⟨l, cl, ⟨_, hl, rfl⟩, e1, e.symm⟩)), fun _ => Iff.rfl, fun _ _ h => .inl h, rfl, rfl, rfl⟩, ⟨fun b hb => ?_, s.boundB, fun k o2 h => ?_, fun a b c1 c2 ha hb => s.inj a b c1 c2 (lv a ha).2 (lv b hb).2, fun k hk => s.fresh k (by simpa using hk)⟩, by simp, fun k _ h => (lv k h).2⟩
 · rcases hb with hb | rfl
   · exact s.bound b hb
   exact hlt
 by_cases e : k = l
 · subst e
   rw [List.getElem?_set_self hlen] at h
   cases h
   exact ⟨hv, cl, cells, T, (0, 0), e1, e2, e3, e4, .inr rfl, e7.mono m⟩
 rw [List.getElem?_set_ne (Ne.symm e)] at h
 refine (s.obj k o2 h).keep m (fun cl2 hr2 hv2 hi => ?_) (fun _ h => h) (fun _ _ _ => rfl)
 rcases hi with hi | hi
 · exact hi
 exact absurd (s.inj k l cl2 cl (live_of h hv2) ⟨_, hl, rfl⟩ hr2 e1 hi) e
end Go.Vi
namespace Go.Vi
def szOf (P : Program) (t : TypeId) : Option Nat := (P.info? t).map (·.size)
def byOf (P : Program) (t : TypeId) : Option Nat := (P.info? t).map (·.bytes)
def aggOf (P : Program) (t : TypeId) : Option Bool := (P.underlying t).map fun d => match d with | .struct _ | .array _ _ => true | _ => false
def leafOfV : Value → Option AV
 | .int k n => some (.int k n)
 | .bool b => some (.bool b)
 | .string s => some (.str s)
 | .pointer none => some .nilp
 | .slice none 0 0 => some .nils
 | .map none => some .nilm
 | .nilFunc => some .nilf
 | .nilIface => some .nili
 | _ => none
def leavesOfV : List Value → Option (List AV)
 | [] => some []
 | V :: r => match leafOfV V, leavesOfV r with
   | some x, some xs => some (x :: xs)
   | _, _ => none
def ofV : Value → Option AV
 | .agg cs => (leavesOfV cs.toList).map .agg
 | V => leafOfV V
def zrOf (P : Program) (t : TypeId) : Option AV := (P.info? t).bind fun i => i.zero.bind ofV
def AV.cells : AV → Option (List AV)
 | .undef | .tup _ => none
 | .agg cs => some cs
 | v => some [v]
theorem leafOfV_rel {c : Cx} {V : Value} {x : AV} (h : leafOfV V = some x) : Rel c x V ∧ V.oneCell' = true ∧ x.isVal = true ∧ x.isLeaf = true := by
 unfold leafOfV at h
 split at h <;> first | cases h | skip
 · exact ⟨.int _ _, rfl, rfl, rfl⟩
 · exact ⟨.bool _, rfl, rfl, rfl⟩
 · exact ⟨.str _, rfl, rfl, rfl⟩
 · exact ⟨.nilp, rfl, rfl, rfl⟩
 · exact ⟨.nils, rfl, rfl, rfl⟩
 · exact ⟨.nilm, rfl, rfl, rfl⟩
 · exact ⟨.nilf, rfl, rfl, rfl⟩
 exact ⟨.nili, rfl, rfl, rfl⟩
theorem leavesOfV_get : ∀ {Vs : List Value} {xs : List AV}, leavesOfV Vs = some xs → xs.length = Vs.length ∧ ∀ (j : Nat) (V : Value), Vs[j]? = some V → ∃ x, xs[j]? = some x ∧ leafOfV V = some x
 | [], xs, h => by cases h; exact ⟨rfl, fun j V hj => by simp at hj⟩
 | V :: r, xs, h => by
   unfold leavesOfV at h
   split at h
   · rename_i x ys hx hr
     cases h
     have ih := leavesOfV_get hr
     refine ⟨by simp [ih.1], fun j V' hj => ?_⟩
     cases j with
     | zero => simp at hj; subst hj; exact ⟨x, by simp, hx⟩
     | succ j => simp at hj; simpa using ih.2 j V' hj
   cases h
theorem ofV_rel {c : Cx} {V : Value} {x : AV} (h : ofV V = some x) : Rel c x V := by
 unfold ofV at h
 split at h
 · rename_i cs
   cases hl : leavesOfV cs.toList with
   | none => rw [hl] at h; cases h
   | some xs =>
     rw [hl] at h
     cases h
     have hg := leavesOfV_get hl
     refine .agg xs cs (by simpa using hg.1) (fun j V hV => ?_) (fun j x V hx hV => ?_)
     · obtain ⟨y, _, hy⟩ := hg.2 j V (by simpa using hV)
       exact (leafOfV_rel (c := c) hy).2.1
     obtain ⟨y, hy1, hy2⟩ := hg.2 j V (by simpa using hV)
     rw [hx] at hy1
     cases hy1
     exact (leafOfV_rel hy2).1
 exact (leafOfV_rel h).1
theorem Rel.cells {c : Cx} {v : AV} {V : Value} {cs : List AV} (h : Rel c v V) (hc : v.cells = some cs) :
 V.cells.size = cs.length ∧ ∀ (j : Nat) (x : AV), cs[j]? = some x → ∃ U, V.cells[j]? = some U ∧ U.oneCell' = true ∧ Rel c x U := by
 have one : ∀ {x : AV} {U : Value}, Rel c x U → U.oneCell' = true → U.cells = #[U] → [x] = cs → U.cells.size = cs.length ∧ ∀ (j : Nat) (y : AV), cs[j]? = some y → ∃ Z, U.cells[j]? = some Z ∧ Z.oneCell' = true ∧ Rel c y Z := by
  intro x U hr h1 hu hcs
  subst hcs
  rw [hu]
  refine ⟨rfl, fun j y hy => ?_⟩
  cases j with
  | zero => simp at hy; subst hy; exact ⟨U, by simp, h1, hr⟩
  | succ j => simp at hy
 have h' := h
 cases h with
 | undef V => cases hc
 | tup cs Vs hl h2 => cases hc
 | agg xs Vs hl h1 h2 =>
   simp only [AV.cells, Option.some.injEq] at hc
   subst hc
   refine ⟨hl.symm, fun j x hx => ?_⟩
   have hj : j < Vs.size := by rw [← hl]; exact (List.getElem?_eq_some_iff.1 hx).1
   exact ⟨Vs[j], by simp [Value.cells, hj], h1 j _ (by simp [hj]), h2 j x _ hx (by simp [hj])⟩
 | _ => exact one h' rfl rfl (by simpa [AV.cells] using hc)
def CellsAt (c : Cx) (b o : Nat) (cs : List AV) : Prop := ∀ (j : Nat) (x : AV), cs[j]? = some x → ∃ V, c.w.cell? ⟨b, o + j, none⟩ = some V ∧ V.oneCell' = true ∧ Rel c x V
theorem CellsAt.drop {c : Cx} {b o : Nat} {cs : List AV} (h : CellsAt c b o cs) (k : Nat) : CellsAt c b (o + k) (cs.drop k) := fun j x hx => by
 rw [List.getElem?_drop] at hx
 have := h (k + j) x hx
 rwa [← Nat.add_assoc] at this
theorem add_spot (b o n : Nat) : (⟨b, o, none⟩ : Addr).add n = ⟨b, o + n, none⟩ := by
 unfold Addr.add
 split
 · subst_vars; rfl
 rfl
theorem cell_at {w : World} {b o : Nat} {cells : Array Value} {T : TypeId} {fr : Nat × Nat} (h : w.heap[b]? = some (.cells cells T fr)) : w.cell? ⟨b, o, none⟩ = cells[o]? := by
 simp [World.cell?, h]
theorem run_un {P : Program} {t : TypeId} {d : TypeDesc} (h : P.underlying t = some d) (w : World) : (underlying t).run P w = .ok d w := run_underlying h w
theorem run_sz {P : Program} {t : TypeId} {n : Nat} (h : szOf P t = some n) (w : World) : (sizeOf t).run P w = .ok n w := by
 unfold szOf at h
 cases hi : P.info? t with
 | none => rw [hi] at h; cases h
 | some i => rw [hi] at h; cases h; simp [sizeOf, typeInfo, hi]
theorem run_agg {P : Program} {t : TypeId} {b : Bool} (h : aggOf P t = some b) (w : World) : (isAgg t).run P w = .ok b w := by
 unfold aggOf at h
 cases hi : P.underlying t with
 | none => rw [hi] at h; cases h
 | some d =>
   rw [hi] at h
   simp only [Option.map_some, Option.some.injEq] at h
   subst h
   unfold isAgg
   rw [Sem.run_bind, run_un hi]
   cases d <;> simp
theorem run_zr {P : Program} {t : TypeId} {x : AV} (h : zrOf P t = some x) (w : World) : ∃ V, (zeroValue t).run P w = .ok V w ∧ ∀ c, Rel c x V := by
 unfold zrOf at h
 cases hi : P.info? t with
 | none => rw [hi] at h; cases h
 | some i =>
   rw [hi] at h
   simp only [Option.bind_some] at h
   cases hz : i.zero with
   | none => rw [hz] at h; cases h
   | some V =>
     rw [hz] at h
     exact ⟨V, by simp [zeroValue, typeInfo, hi, hz], fun c => ofV_rel h⟩
def ldCells (P : Program) (t : TypeId) (cs : List AV) : Option AV :=
 match aggOf P t, szOf P t with
 | some true, some n => if n ≤ cs.length then some (.agg (cs.take n)) else none
 | some false, _ => cs[0]?
 | _, _ => none
def vload (P : Program) (H : Hp) (t : TypeId) : AV → Option AV
 | .ptr l i k => match H[l]? with
   | some (.arr _ _ rows) | some (.frz _ rows) => match rows[i]? with
     | some r => ldCells P t (r.drop k)
     | none => none
   | some (.one _ cs) => if i = 0 then ldCells P t (cs.drop k) else none
   | _ => none
 | .iptr _ cs => ldCells P t cs
 | _ => none
theorem ld_sound {P : Program} {c : Cx} {t : TypeId} {b o : Nat} {cs : List AV} {x : AV} (h : CellsAt c b o cs) (hx : ldCells P t cs = some x) :
 ∃ V, (loadVar t ⟨b, o, none⟩).run P c.w = .ok V c.w ∧ Rel c x V := by
 unfold ldCells at hx
 split at hx
 · rename_i n ha hn
   split at hx
   · rename_i hle
     cases hx
     have hF : ∀ j, ∃ V, j < n → c.w.cell? ⟨b, o + j, none⟩ = some V ∧ V.oneCell' = true ∧ ∀ y, cs[j]? = some y → Rel c y V := fun j => by
      by_cases hj : j < n
      · obtain ⟨V, h1, h2, h3⟩ := h j cs[j] (List.getElem?_eq_getElem (by omega))
        refine ⟨V, fun _ => ⟨h1, h2, fun y hy => ?_⟩⟩
        rw [List.getElem?_eq_getElem (by omega)] at hy
        cases hy
        exact h3
      exact ⟨undef, fun h => absurd h hj⟩
     have hl := run_loadCells (P := P) c.w ⟨b, o, none⟩ n (fun j => (hF j).choose) (fun j hj => by rw [add_spot]; exact ((hF j).choose_spec hj).1)
     refine ⟨.agg ((List.range n).map (fun j => (hF j).choose)).toArray, ?_, ?_⟩
     · unfold loadVar
       simp [run_agg ha, run_sz hn, hl]
     refine .agg _ _ (by simp; omega) (fun j V hV => ?_) (fun j y V hy hV => ?_)
     · simp only [List.getElem?_toArray, List.getElem?_map] at hV
       by_cases hj : j < n
       · rw [List.getElem?_range hj] at hV
         cases hV
         exact ((hF j).choose_spec hj).2.1
       rw [List.getElem?_eq_none (by simp; omega)] at hV
       cases hV
     simp only [List.getElem?_toArray, List.getElem?_map] at hV
     by_cases hj : j < n
     · rw [List.getElem?_range hj] at hV
       cases hV
       rw [List.getElem?_take, if_pos hj] at hy
       exact ((hF j).choose_spec hj).2.2 y hy
     rw [List.getElem?_eq_none (by simp; omega)] at hV
     cases hV
   cases hx
 · rename_i ha
   obtain ⟨V, h1, h2, h3⟩ := h 0 x hx
   refine ⟨V, ?_, h3⟩
   unfold loadVar
   simp only [Nat.add_zero] at h1
   simp [run_agg ha, h1]
 cases hx
theorem RowsAt.cells {c : Cx} {b base sz i k : Nat} {cells : Array Value} {T : TypeId} {fr : Nat × Nat} {rows : List (List AV)} {r : List AV}
 (hh : c.w.heap[b]? = some (.cells cells T fr)) (h : RowsAt c cells base sz rows) (hr : rows[i]? = some r) : CellsAt c b (base + i * sz + k) (r.drop k) := fun j x hx => by
 rw [List.getElem?_drop] at hx
 obtain ⟨V, h1, h2, h3⟩ := (h i r hr).2 (k + j) x hx
 exact ⟨V, by rw [cell_at hh, ← h1]; congr 1; omega, h2, h3⟩
theorem ptr_cells {c : Cx} {H : Hp} (s : Sim c H) {l i k : Nat} {V : Value} (hV : Rel c (.ptr l i k) V) {rows : List (List AV)} {r : List AV}
 (hl : (∃ T sz, H[l]? = some (.arr T sz rows)) ∨ ∃ sz, H[l]? = some (.frz sz rows)) (hr : rows[i]? = some r) : ∃ b o, V = .pointer (some ⟨b, o, none⟩) ∧ CellsAt c b o (r.drop k) := by
 cases hV with
 | ptr _ _ _ cl h =>
   rcases hl with ⟨T, sz, hl⟩ | ⟨sz, hl⟩
   · obtain ⟨cl', cells, e1, e2, e3, e4, e5, e6, e7⟩ := s.obj l _ hl
     rw [h] at e1
     cases e1
     exact ⟨_, _, rfl, RowsAt.cells e3 (e2 ▸ e7) hr⟩
   obtain ⟨e0, cl', cells, T, fr, e1, e2, e3, e4, e5, e6⟩ := s.obj l _ hl
   rw [h] at e1
   cases e1
   exact ⟨_, _, rfl, RowsAt.cells e3 (e2 ▸ e6) hr⟩
theorem iptr_cells {c : Cx} {bo : Bool} {cs : List AV} {V : Value} (hV : Rel c (.iptr bo cs) V) : ∃ b o, V = .pointer (some ⟨b, o, none⟩) ∧ CellsAt c b o cs := by
 cases hV with
 | iptr _ _ b o F hb hv h1 h2 =>
   refine ⟨b, o, rfl, fun j x hx => ?_⟩
   have hj := (List.getElem?_eq_some_iff.1 hx).1
   exact ⟨F j, (h1 j hj).1, (h1 j hj).2, h2 j x hx⟩
theorem load_sound {P : Program} {c : Cx} {H : Hp} (s : Sim c H) {t : TypeId} {v x : AV} {V : Value} (hV : Rel c v V) (hx : vload P H t v = some x) :
 ∃ X, (Instr.loadAt t V).run P c.w = .ok X c.w ∧ Rel c x X := by
 unfold vload at hx
 split at hx
 · rename_i l i k
   have key : ∀ {rows : List (List AV)}, ((∃ T sz, H[l]? = some (.arr T sz rows)) ∨ ∃ sz, H[l]? = some (.frz sz rows)) → (match rows[i]? with | some r => ldCells P t (r.drop k) | none => none) = some x → ∃ X, (Instr.loadAt t V).run P c.w = .ok X c.w ∧ Rel c x X := by
    intro rows hl hx
    split at hx
    · rename_i r hr
      obtain ⟨b, o, rfl, hc⟩ := ptr_cells s hV hl hr
      obtain ⟨X, h1, h2⟩ := ld_sound hc hx
      exact ⟨X, by simpa [Instr.loadAt, Instr.sureAddr] using h1, h2⟩
    cases hx
   split at hx
   · rename_i T sz rows hl
     exact key (.inl ⟨T, sz, hl⟩) hx
   · rename_i sz rows hl
     exact key (.inr ⟨sz, hl⟩) hx
   · rename_i T cs hl
     split at hx
     · rename_i hi
       subst hi
       obtain ⟨cl', cells, e1, e2, e3, e4, e5, e6, e7, e8, e9⟩ := s.obj l _ hl
       cases hV with
       | ptr _ _ _ cl hρ =>
         rw [hρ] at e1
         cases e1
         obtain ⟨X, h1, h2⟩ := ld_sound (RowsAt.cells (k := k) e3 (e2 ▸ e7) (i := 0) rfl) hx
         exact ⟨X, by simpa [Instr.loadAt, Instr.sureAddr] using h1, h2⟩
     cases hx
   cases hx
 · obtain ⟨b, o, rfl, hc⟩ := iptr_cells hV
   obtain ⟨X, h1, h2⟩ := ld_sound hc hx
   exact ⟨X, by simpa [Instr.loadAt, Instr.sureAddr] using h1, h2⟩
 cases hx
def setC (r : List AV) (k : Nat) (cs : List AV) : List AV := r.take k ++ cs ++ r.drop (k + cs.length)
def vstore (P : Program) (H : Hp) (t : TypeId) (p x : AV) : Option Hp :=
 match p with
 | .ptr l i k => match H[l]? with
   | some (.one T r) => match x.cells, szOf P t with
     | some cs, some n => if cs.length = n ∧ k + n ≤ r.length ∧ n ≠ 0 ∧ i = 0 then some (H.set l (.one T (setC r k cs))) else none
     | _, _ => none
   | some (.arr T sz rows) => match rows[i]?, x.cells, szOf P t with
     | some r, some cs, some n => if cs.length = n ∧ k + n ≤ r.length ∧ n ≠ 0 then some (H.set l (.arr T sz (rows.set i (setC r k cs)))) else none
     | _, _, _ => none
   | _ => none
 | _ => none
theorem setC_length {r cs : List AV} {k : Nat} (h : k + cs.length ≤ r.length) : (setC r k cs).length = r.length := by
 simp [setC]; omega
theorem setC_get {r cs : List AV} {k : Nat} (h : k + cs.length ≤ r.length) (j : Nat) : (setC r k cs)[j]? = if k ≤ j ∧ j < k + cs.length then cs[j - k]? else r[j]? := by
 unfold setC
 rw [List.append_assoc]
 by_cases h1 : j < k
 · rw [List.getElem?_append_left (by simp; omega), List.getElem?_take, if_pos h1, if_neg (by omega)]
 rw [List.getElem?_append_right (by simp; omega)]
 have hk : (r.take k).length = k := by simp; omega
 rw [hk]
 by_cases h2 : j < k + cs.length
 · rw [List.getElem?_append_left (by omega), if_pos (by omega)]
 rw [List.getElem?_append_right (by omega), if_neg (by omega), List.getElem?_drop]
 congr 1
 omega
theorem splice_get (cur : List Value) (vs : List Value) (o : Nat) (h : o + vs.length ≤ cur.length) (j : Nat) :
 (cur.take o ++ vs ++ cur.drop (o + vs.length))[j]? = if o ≤ j ∧ j < o + vs.length then vs[j - o]? else cur[j]? := by
 rw [List.append_assoc]
 by_cases h1 : j < o
 · rw [List.getElem?_append_left (by simp; omega), List.getElem?_take, if_pos h1, if_neg (by omega)]
 have hk : (cur.take o).length = o := by simp; omega
 rw [List.getElem?_append_right (by simp; omega), hk]
 by_cases h2 : j < o + vs.length
 · rw [List.getElem?_append_left (by omega), if_pos (by omega)]
 rw [List.getElem?_append_right (by omega), if_neg (by omega), List.getElem?_drop]
 congr 1
 omega
theorem setRow_other {w : World} {g b : Nat} {cells : Array Value} (h : b ≠ g) : (w.setRow g cells).heap[b]? = w.heap[b]? := by
 simp only [World.setRow, Array.getElem?_modify]
 rw [if_neg (Ne.symm h)]
theorem run_put {P : Program} {w : World} {b o : Nat} {cells : Array Value} {T : TypeId} {vs : List Value} (hh : w.heap[b]? = some (.cells cells T (0, 0))) (hl : o + vs.length ≤ cells.size) (h1 : ∀ v ∈ vs, v.oneCell' = true) :
 ∃ w' cells', (storeCells ⟨b, o, none⟩ vs 0).run P w = .ok () w' ∧ w'.heap[b]? = some (.cells cells' T (0, 0)) ∧ cells'.size = cells.size ∧
   (∀ j, cells'[j]? = if o ≤ j ∧ j < o + vs.length then vs[j - o]? else cells[j]?) ∧ w'.heap.size = w.heap.size ∧ (∀ k, k ≠ b → w'.heap[k]? = w.heap[k]?) ∧ w'.os = w.os ∧ w'.tape = w.tape ∧ w'.output = w.output := by
 refine ⟨_, _, by simpa using run_storeCells_at (P := P) b o T vs 0 cells w hh (by simpa using hl) h1, setRow_heap w b cells _ T _ hh, by simp; omega, fun j => ?_, by simp [World.setRow], fun k hk => setRow_other hk, rfl, rfl, rfl⟩
 simpa using splice_get cells.toList vs o (by simpa using hl) j
end Go.Vi
namespace Go.Vi
theorem mul_lt_row {i i' sz j : Nat} (h : i' < i) (hj : j < sz) : i' * sz + j < i * sz := by
 have := Nat.mul_le_mul_right sz (show i' + 1 ≤ i by omega)
 rw [Nat.add_mul, Nat.one_mul] at this
 omega
theorem RowsAt.put {c : Cx} {cells cells' : Array Value} {base sz i k : Nat} {rows : List (List AV)} {r cs : List AV} {vs : List Value} (h : RowsAt c cells base sz rows) (hr : rows[i]? = some r)
 (hk : k + cs.length ≤ r.length) (hlen : vs.length = cs.length) (hvs : ∀ (j : Nat) (x : AV), cs[j]? = some x → ∃ V, vs[j]? = some V ∧ V.oneCell' = true ∧ Rel c x V)
 (hc : ∀ j, cells'[j]? = if base + i * sz + k ≤ j ∧ j < base + i * sz + k + vs.length then vs[j - (base + i * sz + k)]? else cells[j]?) :
 RowsAt c cells' base sz (rows.set i (setC r k cs)) := by
 intro i' r' hr'
 have hrl := (h i r hr).1
 have hi : i < rows.length := (List.getElem?_eq_some_iff.1 hr).1
 by_cases e : i' = i
 · subst e
   rw [List.getElem?_set_self hi] at hr'
   cases hr'
   refine ⟨by rw [setC_length hk, hrl], fun j x hx => ?_⟩
   rw [setC_get hk] at hx
   split at hx
   · rename_i hj
     obtain ⟨V, h1, h2, h3⟩ := hvs _ x hx
     refine ⟨V, ?_, h2, h3⟩
     rw [hc, if_pos (by omega), ← h1]
     congr 1
     omega
   rename_i hj
   obtain ⟨V, h1, h2, h3⟩ := (h i' r hr).2 j x hx
   exact ⟨V, by rw [hc, if_neg (by omega)]; exact h1, h2, h3⟩
 rw [List.getElem?_set_ne (Ne.symm e)] at hr'
 refine ⟨(h i' r' hr').1, fun j x hx => ?_⟩
 obtain ⟨V, h1, h2, h3⟩ := (h i' r' hr').2 j x hx
 refine ⟨V, ?_, h2, h3⟩
 have hj : j < sz := by rw [← (h i' r' hr').1]; exact (List.getElem?_eq_some_iff.1 hx).1
 rw [hc, if_neg]
 · exact h1
 rcases Nat.lt_or_gt_of_ne e with e | e
 · have := mul_lt_row e hj
   omega
 have := Nat.mul_le_mul_right sz (show i + 1 ≤ i' from e)
 rw [Nat.add_mul, Nat.one_mul] at this
 omega
theorem RowsAt.lim {c : Cx} {cells : Array Value} {base sz i : Nat} {rows : List (List AV)} {r : List AV} (h : RowsAt c cells base sz rows) (hr : rows[i]? = some r) {j : Nat} (hj : j < sz) : base + i * sz + j < cells.size := by
 have hl := (h i r hr).1
 obtain ⟨V, h1, _⟩ := (h i r hr).2 j r[j] (List.getElem?_eq_getElem (by omega))
 exact (Array.getElem?_eq_some_iff.1 h1).1
theorem store_sound {P : Program} {c : Cx} {H H' : Hp} (s : Sim c H) {t : TypeId} {p x : AV} {V X : Value} (hV : Rel c p V) (hX : Rel c x X) (h : vstore P H t p x = some H') :
 ∃ c', (Instr.storeAt t V X).run P c.w = .ok () c'.w ∧ To c H c' H' := by
 unfold vstore at h
 split at h
 · rename_i l i k
   split at h
   · rename_i T r hl
     split at h
     · rename_i cs n hcs hn
       split at h
       · rename_i hcond
         obtain ⟨hlen, hk, hn0, hi⟩ := hcond
         subst hi
         cases h
         have hr : [r][0]? = some r := rfl
         cases hV with
         | ptr _ _ _ cl hρ =>
           obtain ⟨cl', cells, e1, e2, e3, e4, e5, e6, e7, e8, e9⟩ := s.obj l _ hl
           rw [hρ] at e1
           cases e1
           rw [← e2] at e7
           obtain ⟨hXs, hXc⟩ := hX.cells hcs
           have hrl := (e7 0 r hr).1
           have hlim : cl.base + 0 * cl.sz + k + X.cells.toList.length ≤ cells.size := by
            simp only [Array.length_toList]
            have := RowsAt.lim e7 hr (show k + X.cells.size - 1 < cl.sz by omega)
            omega
           have hone : ∀ v ∈ X.cells.toList, v.oneCell' = true := fun v hv => by
            obtain ⟨j, hj, rfl⟩ := List.getElem_of_mem hv
            have hj' : j < X.cells.size := by simpa using hj
            obtain ⟨U, u1, u2, _⟩ := hXc j cs[j] (List.getElem?_eq_getElem (by omega))
            rw [Array.getElem?_eq_getElem hj'] at u1
            cases u1
            simpa using u2
           obtain ⟨w', cells', hrun, f1, f2, f3, f4, f5, f6, f7, f8⟩ := run_put (P := P) e3 hlim hone
           have hsl : (setC r k cs).length = r.length := setC_length (by omega)
           refine ⟨{ c with w := w' }, ?_, To.write s ⟨_, hl, rfl⟩ hρ _ f4 f5 f6 f7 f8 (fun m => ⟨cl, cells', hρ, by rw [hsl]; exact e2, f1, f2.trans e4, e5, e6, ?_, e8, by rw [hsl]; exact e9⟩)⟩
           · have hsz : X.cells.size = n := by omega
             have e0 : cl.base + 0 * cl.sz + k = cl.base + k := by simp
             rw [e0] at hrun
             simp [Instr.storeAt, Instr.sureAddr, storeVar, run_sz hn, hsz, hrun]
           have := RowsAt.put (cells' := cells') (cs := cs) (k := k) (vs := X.cells.toList) (e7.mono m) hr (by omega) (by simp; omega) (fun j y hy => by
            obtain ⟨U, u1, u2, u3⟩ := hXc j y hy
            exact ⟨U, by simpa using u1, u2, u3.mono m⟩) f3
           rw [hsl, ← e2]
           exact this
       cases h
     cases h
   · rename_i T sz rows hl
     split at h
     · rename_i r cs n hr hcs hn
       split at h
       · rename_i hcond
         obtain ⟨hlen, hk, hn0⟩ := hcond
         cases h
         cases hV with
         | ptr _ _ _ cl hρ =>
           obtain ⟨cl', cells, e1, e2, e3, e4, e5, e6, e7⟩ := s.obj l _ hl
           rw [hρ] at e1
           cases e1
           subst e2
           obtain ⟨hXs, hXc⟩ := hX.cells hcs
           have hrl := (e7 i r hr).1
           have hlim : cl.base + i * cl.sz + k + X.cells.toList.length ≤ cells.size := by
            simp only [Array.length_toList]
            have := RowsAt.lim e7 hr (show k + X.cells.size - 1 < cl.sz by omega)
            omega
           have hone : ∀ v ∈ X.cells.toList, v.oneCell' = true := fun v hv => by
            obtain ⟨j, hj, rfl⟩ := List.getElem_of_mem hv
            have hj' : j < X.cells.size := by simpa using hj
            obtain ⟨U, u1, u2, _⟩ := hXc j cs[j] (List.getElem?_eq_getElem (by omega))
            rw [Array.getElem?_eq_getElem hj'] at u1
            cases u1
            simpa using u2
           obtain ⟨w', cells', hrun, f1, f2, f3, f4, f5, f6, f7, f8⟩ := run_put (P := P) e3 hlim hone
           refine ⟨{ c with w := w' }, ?_, To.write s ⟨_, hl, rfl⟩ hρ _ f4 f5 f6 f7 f8 (fun m => ⟨cl, cells', hρ, rfl, f1, f2.trans e4, e5, e6, ?_⟩)⟩
           · have hsz : X.cells.size = n := by omega
             simp [Instr.storeAt, Instr.sureAddr, storeVar, run_sz hn, hsz, hrun]
           refine RowsAt.put (e7.mono m) hr (by omega) (by simp; omega) (fun j y hy => ?_) f3
           obtain ⟨U, u1, u2, u3⟩ := hXc j y hy
           exact ⟨U, by simpa using u1, u2, u3.mono m⟩
       cases h
     cases h
   cases h
 cases h
end Go.Vi
set_option linter.unusedVariables false
set_option linter.unusedSimpArgs false
namespace Go.Vi
theorem new_rows {c : Cx} {H : Hp} (s : Sim c H) {cells : Array Value} (T : TypeId) {sz : Nat} {rows : List (List AV)} (h : RowsAt c cells 0 sz rows) :
 To c H { c with w := c.w.alloc (.cells cells T), ρ := updρ c.ρ H.length ⟨c.w.heap.size, 0, sz, cells.size⟩ } (H ++ [.arr T sz rows]) :=
 To.new s _ _ _ rfl fun c' m hρ hh hI hB => ⟨_, cells, hρ, rfl, hh, rfl, hI, hB, h.mono m⟩
theorem rows_one {c : Cx} {x : AV} {V : Value} {cs : List AV} (h : Rel c x V) (hc : x.cells = some cs) : RowsAt c V.cells 0 cs.length [cs] := fun i r hr => by
 cases i with
 | succ i => simp at hr
 | zero =>
   simp at hr
   subst hr
   refine ⟨rfl, fun j y hy => ?_⟩
   obtain ⟨U, u1, u2, u3⟩ := (h.cells hc).2 j y hy
   exact ⟨U, by simpa using u1, u2, u3⟩
theorem updρ_self (ρ : Nat → Option CL) (l : Nat) (cl : CL) : updρ ρ l cl l = some cl := by simp [updρ]
def vbox (H : Hp) (t : TypeId) (x : AV) : Option (AV × Hp) :=
 match x.cells with
 | some cs => some (.ptr H.length 0 0, H ++ [.arr t cs.length [cs]])
 | none => none
def Yields (P : Program) (c : Cx) (H : Hp) (e : Sem Value) (v : AV) (H' : Hp) : Prop := ∃ V c', e.run P c.w = .ok V c'.w ∧ To c H c' H' ∧ Rel c' v V
theorem Yields.same {P : Program} {c : Cx} {H : Hp} (s : Sim c H) {e : Sem Value} {v : AV} {V : Value} (h : e.run P c.w = .ok V c.w) (hr : Rel c v V) : Yields P c H e v H := ⟨V, c, h, To.refl s, hr⟩
theorem newVar_sound {P : Program} {c : Cx} {H : Hp} (s : Sim c H) {t : TypeId} {x : AV} {X : Value} (hX : Rel c x X) {cs : List AV} (hc : x.cells = some cs) :
 Yields P c H (do pure (.pointer (some (← newVar t X)))) (.ptr H.length 0 0) (H ++ [.arr t cs.length [cs]]) := by
 refine ⟨.pointer (some ⟨c.w.heap.size, 0, none⟩), _, ?_, new_rows s t (rows_one hX hc), ?_⟩
 · simp [newVar, newRow, World.alloc_eq]
 have := Rel.ptr (c := { c with w := c.w.alloc (.cells X.cells t), ρ := updρ c.ρ H.length ⟨c.w.heap.size, 0, cs.length, X.cells.size⟩ }) H.length 0 0 _ (updρ_self _ _ _)
 simpa using this
theorem box_sound {P : Program} {c : Cx} {H H' : Hp} (s : Sim c H) {t : TypeId} {x v : AV} {X : Value} (hX : Rel c x X) (h : vbox H t x = some (v, H')) : Yields P c H (Instr.box t X) v H' := by
 unfold vbox at h
 split at h
 · rename_i cs hc
   cases h
   exact newVar_sound s hX hc
 cases h
def valloc (P : Program) (H : Hp) (t : TypeId) : Option (AV × Hp) := (zrOf P t).bind (vbox H t)
theorem alloc_sound {P : Program} {c : Cx} {H H' : Hp} (s : Sim c H) {t : TypeId} {v : AV} (h : valloc P H t = some (v, H')) : Yields P c H (Instr.alloc t true (.tuple #[])) v H' := by
 unfold valloc at h
 cases hz : zrOf P t with
 | none => rw [hz] at h; cases h
 | some z =>
   rw [hz] at h
   obtain ⟨Z, h1, h2⟩ := run_zr hz c.w
   obtain ⟨V, c', h3, h4, h5⟩ := box_sound (P := P) (t := t) s (h2 c) h
   refine ⟨V, c', ?_, h4, h5⟩
   simp only [Instr.alloc, Sem.run_bind, h1, Result.andThen_ok]
   exact h3
def fieldAt (P : Program) (s : TypeId) (f : Nat) : Option (Nat × TypeId × Nat) :=
 match P.underlying s with
 | some (.struct fields) => match fields[f]? with
   | some fd => match szOf P fd.type with
     | some n => some (fd.offset, fd.type, n)
     | none => none
   | none => none
 | _ => none
theorem fieldAt_of {P : Program} {s : TypeId} {f : Nat} {off : Nat} {ft : TypeId} {n : Nat} (h : fieldAt P s f = some (off, ft, n)) :
 ∃ fields fd, P.underlying s = some (.struct fields) ∧ fields[f]? = some fd ∧ fd.offset = off ∧ fd.type = ft ∧ szOf P ft = some n := by
 unfold fieldAt at h
 split at h
 · rename_i fields hu
   split at h
   · rename_i fd hf
     split at h
     · rename_i n' hn
       cases h
       exact ⟨fields, fd, hu, hf, rfl, rfl, hn⟩
     cases h
   cases h
 cases h
def vfield (P : Program) (s : TypeId) (f : Nat) (x : AV) : Option AV :=
 match fieldAt P s f with
 | some (off, _, n) => if n = 0 then none else match x with
   | .ptr l i k => some (.ptr l i (k + off))
   | .iptr b cs => some (.iptr b (cs.drop off))
   | _ => none
 | none => none
theorem Rel.iptr_drop {c : Cx} {bo : Bool} {cs : List AV} {b o : Nat} (h : Rel c (.iptr bo cs) (.pointer (some ⟨b, o, none⟩))) (k : Nat) :
 Rel c (.iptr bo (cs.drop k)) (.pointer (some ⟨b, o + k, none⟩)) := by
 cases h with
 | iptr _ _ _ _ F hb hv h1 h2 =>
   refine .iptr bo _ b (o + k) (fun j => F (k + j)) (hb.imp (fun e => by rw [e]; simp) id) (fun x hx => hv x (List.mem_of_mem_drop hx)) (fun j hj => ?_) (fun j x hx => ?_)
   · rw [List.length_drop] at hj
     have := h1 (k + j) (by omega)
     rwa [← Nat.add_assoc] at this
   rw [List.getElem?_drop] at hx
   exact h2 _ x hx
theorem field_sound {P : Program} {c : Cx} {s : TypeId} {f : Nat} {x v : AV} {X : Value} (hX : Rel c x X) (h : vfield P s f x = some v) :
 ∃ V, (Instr.fieldAt s X f).run P c.w = .ok V c.w ∧ Rel c v V := by
 unfold vfield at h
 split at h
 · rename_i off ft n hf
   obtain ⟨fields, fd, hu, hfd, ho, ht, hn⟩ := fieldAt_of hf
   split at h
   · cases h
   rename_i hn0
   have run : ∀ b o, (Instr.fieldAt s (.pointer (some ⟨b, o, none⟩)) f).run P c.w = .ok (.pointer (some ⟨b, o + off, none⟩)) c.w := fun b o => by
    subst ho; subst ht
    simp [Instr.fieldAt, run_un hu, hfd, Instr.sureAddr, fieldPlace, run_sz hn, hn0, add_spot]
   split at h
   · rename_i l i k
     cases h
     cases hX with
     | ptr _ _ _ cl hρ => exact ⟨_, run _ _, by have := Rel.ptr l i (k + off) cl hρ; rwa [← Nat.add_assoc] at this⟩
   · rename_i bo cs
     cases h
     cases hX with
     | iptr _ _ b o F hb hv h1 h2 => exact ⟨_, run _ _, (Rel.iptr bo cs b o F hb hv h1 h2).iptr_drop off⟩
   cases h
 cases h
def lenOk (sz : Nat) (rows : List (List AV)) : Bool := rows.all fun r => r.length == sz
def elemAt (P : Program) (t : TypeId) : Option (Option Nat × TypeId × Nat) :=
 match P.underlying t with
 | some (.slice e) => (szOf P e).map fun n => (none, e, n)
 | some (.array len e) => (szOf P e).map fun n => (some len, e, n)
 | _ => none
theorem elemAt_of {P : Program} {t : TypeId} {a : Option Nat} {e : TypeId} {n : Nat} (h : elemAt P t = some (a, e, n)) :
 szOf P e = some n ∧ ((a = none ∧ P.underlying t = some (.slice e)) ∨ ∃ len, a = some len ∧ P.underlying t = some (.array len e)) := by
 unfold elemAt at h
 split at h
 · rename_i e' hu
   cases hs : szOf P e' with
   | none => rw [hs] at h; cases h
   | some m => rw [hs] at h; cases h; exact ⟨hs, .inl ⟨rfl, hu⟩⟩
 · rename_i len e' hu
   cases hs : szOf P e' with
   | none => rw [hs] at h; cases h
   | some m => rw [hs] at h; cases h; exact ⟨hs, .inr ⟨len, rfl, hu⟩⟩
 cases h
def vindexAddr (P : Program) (H : Hp) (t : TypeId) (x ix : AV) : Option AV :=
 match elemAt P t, ix with
 | some (none, _, sz), .int _ n => match x with
   | .list tg rows => if 0 ≤ n ∧ n < rows.length then match rows[n.toNat]? with
    | some r => if r.length = sz then some (.iptr (tg == .bor) r) else none
    | none => none
     else none
   | .row _ l i m => if 0 ≤ n ∧ n < m then match H[l]? with
    | some (.arr _ sz' _) | some (.frz sz' _) => if sz' = sz then some (.ptr l (i + n.toNat) 0) else none
    | _ => none
     else none
   | .sub l i k es m => if 0 ≤ n ∧ n < m ∧ es = sz then some (.ptr l i (k + n.toNat * es)) else none
   | _ => none
 | some (some len, _, sz), .int _ n => if 0 ≤ n ∧ n < len then match x with
   | .ptr l i k => some (.ptr l i (k + n.toNat * sz))
   | .iptr b cs => some (.iptr b (cs.drop (n.toNat * sz)))
   | _ => none
   else none
 | _, _ => none
theorem obj_sz {c : Cx} {H : Hp} (s : Sim c H) {l sz : Nat} {rows : List (List AV)} {cl : CL} (h : (∃ T, H[l]? = some (.arr T sz rows)) ∨ H[l]? = some (.frz sz rows)) (hρ : c.ρ l = some cl) : cl.sz = sz := by
 rcases h with ⟨T, h⟩ | h
 · obtain ⟨cl', _, e1, e2, _⟩ := s.obj l _ h
   rw [hρ] at e1; cases e1; exact e2
 obtain ⟨_, cl', _, _, _, e1, e2, _⟩ := s.obj l _ h
 rw [hρ] at e1; cases e1; exact e2
theorem Rel.list_elem {c : Cx} {tg : Tg} {rows : List (List AV)} {b o len cap sz : Nat} (h : Rel c (.list tg rows) (.slice (some ⟨b, o, none⟩) len cap)) {n : Nat} {r : List AV} (hr : rows[n]? = some r) (hsz : r.length = sz) :
 len = rows.length ∧ Rel c (.iptr (tg == .bor) r) (.pointer (some ⟨b, o + n * sz, none⟩)) := by
 cases h with
 | list _ _ _ _ sz' _ _ hsp F hb hc ht hs hv h1 h2 =>
   have hm := List.mem_of_getElem? hr
   have hs' : sz' = sz := (hs r hm).symm.trans hsz
   subst hs'
   have hn := (List.getElem?_eq_some_iff.1 hr).1
   refine ⟨rfl, .iptr _ r b _ (F n) (hb.elim (fun e => by subst e; cases hr) (fun h => .inr ?_)) (fun x hx => List.all_eq_true.1 (List.all_eq_true.1 hv r hm) x hx) (fun j hj => h1 n j hn (by omega)) (fun j x hx => h2 n r j x hr hx)⟩
   cases tg <;> exact h
theorem indexAddr_sound {P : Program} {c : Cx} {H : Hp} (s : Sim c H) {t : TypeId} {x ix v : AV} {X IX : Value} (hX : Rel c x X) (hI : Rel c ix IX) (h : vindexAddr P H t x ix = some v) :
 ∃ V, (Instr.indexAt t X IX).run P c.w = .ok V c.w ∧ Rel c v V := by
 unfold vindexAddr at h
 split at h
 · rename_i e sz k n he
   obtain ⟨hsz, hu⟩ := elemAt_of he
   simp only [true_and, reduceCtorEq, false_and, exists_false, or_false] at hu
   cases hI
   have run : ∀ (b o len cap : Nat), 0 ≤ n → n < (len : Int) → (Instr.indexAt t (.slice (some ⟨b, o, none⟩) len cap) (.int k n)).run P c.w = .ok (.pointer (some ⟨b, o + n.toNat * sz, none⟩)) c.w := fun b o len cap h0 h1 => by
    simp [Instr.indexAt, asIntOf, run_un hu, h0, h1, run_sz hsz, add_spot]
   split at h
   · rename_i tg rows
     split at h
     · rename_i hb
       split at h
       · rename_i r hr
         split at h
         · rename_i hl
           cases h
           have hX' := hX
           cases hX with
           | list _ _ b o sz' cap sp hsp F hb' hc ht hs hv h1 h2 =>
             obtain rfl := hsp.resolve_left (fun e => by subst e; cases hr)
             exact ⟨_, run b o _ cap hb.1 hb.2, (hX'.list_elem hr hl).2⟩
         cases h
       cases h
     cases h
   · rename_i tt l i m
     split at h
     · rename_i hb
       cases hX with
       | row _ _ _ _ cl o cap hρ ho hn ht hl =>
         have fin : ∀ sz', cl.sz = sz' → (if sz' = sz then some (AV.ptr l (i + n.toNat) 0) else none) = some v → ∃ V, (Instr.indexAt t (.slice (some ⟨cl.blk, o, none⟩) m cap) (.int k n)).run P c.w = .ok V c.w ∧ Rel c v V := by
          intro sz' e h
          split at h
          · rename_i e2
            cases h
            subst e2
            have hcap : cap ≠ 0 := by omega
            have ho' : o = cl.base + i * cl.sz := ho.resolve_right hcap
            refine ⟨_, run _ _ _ _ hb.1 hb.2, ?_⟩
            have := Rel.ptr l (i + n.toNat) 0 cl hρ
            rw [Nat.add_mul] at this
            rw [ho', ← e]
            simpa [Nat.add_assoc] using this
          cases h
         split at h
         · rename_i T sz' rows hobj
           exact fin sz' (obj_sz s (.inl ⟨T, hobj⟩) hρ) h
         · rename_i sz' rows hobj
           exact fin sz' (obj_sz s (.inr hobj) hρ) h
         cases h
     cases h
   · rename_i l i k2 es m
     split at h
     · rename_i hb
       cases h
       cases hX with
       | sub _ _ _ _ _ cl o cap hρ ho hn =>
         obtain ⟨b0, b1, rfl⟩ := hb
         have ho' := ho.resolve_right (by omega)
         refine ⟨_, run _ _ _ _ b0 b1, ?_⟩
         have := Rel.ptr l i (k2 + n.toNat * es) cl hρ
         rw [ho']
         simpa [Nat.add_assoc] using this
     cases h
   cases h
 · rename_i len e sz k n he
   obtain ⟨hsz, hu⟩ := elemAt_of he
   obtain ⟨len', hl', hu⟩ := hu.resolve_left (fun h => by cases h.1)
   cases hl'
   cases hI
   split at h
   · rename_i hb
     have run : ∀ b o, (Instr.indexAt t (.pointer (some ⟨b, o, none⟩)) (.int k n)).run P c.w = .ok (.pointer (some ⟨b, o + n.toNat * sz, none⟩)) c.w := fun b o => by
      simp [Instr.indexAt, asIntOf, run_un hu, Instr.sureAddr, hb.1, hb.2, run_sz hsz, add_spot]
     split at h
     · rename_i l i k2
       cases h
       cases hX with
       | ptr _ _ _ cl hρ => exact ⟨_, run _ _, by have := Rel.ptr l i (k2 + n.toNat * sz) cl hρ; rwa [← Nat.add_assoc] at this⟩
     · rename_i bo cs
       cases h
       cases hX with
       | iptr _ _ b o F hb hv h1 h2 => exact ⟨_, run _ _, (Rel.iptr bo cs b o F hb hv h1 h2).iptr_drop _⟩
     cases h
   cases h
 cases h
def vpart (P : Program) (t : TypeId) (cs : List AV) (off : Nat) : Option AV := ldCells P t (cs.drop off)
theorem part_sound {P : Program} {c : Cx} {t : TypeId} {cs : List AV} {Vs : Array Value} {off : Nat} {v : AV} (h : Rel c (.agg cs) (.agg Vs)) (hv : vpart P t cs off = some v) (w : World) :
 ∃ V, (part t Vs off).run P w = .ok V w ∧ Rel c v V := by
 cases h with
 | agg _ _ hl h1 h2 =>
   unfold vpart ldCells at hv
   split at hv
   · rename_i n ha hn
     split at hv
     · rename_i hle
       cases hv
       rw [List.length_drop] at hle
       refine ⟨.agg (Vs.extract off (off + n)), by simp [part, run_agg ha, run_sz hn], .agg _ _ (by simp; omega) (fun j V hV => ?_) (fun j x V hx hV => ?_)⟩
       · rw [Array.getElem?_extract] at hV
         split at hV
         · exact h1 _ V hV
         cases hV
       rw [Array.getElem?_extract] at hV
       split at hV
       · rw [List.getElem?_take] at hx
         split at hx
         · rw [List.getElem?_drop] at hx
           exact h2 _ x V hx hV
         cases hx
       cases hV
     cases hv
   · rename_i ha
     rw [List.getElem?_drop] at hv
     have hj := (List.getElem?_eq_some_iff.1 hv).1
     have hV : Vs[off]? = some Vs[off] := Array.getElem?_eq_getElem (by omega)
     refine ⟨Vs[off], by simp [part, run_agg ha, hV], h2 off v _ (by simpa using hv) hV⟩
   cases hv
def vfieldOf (P : Program) (t : TypeId) (f : Nat) (x : AV) : Option AV :=
 match fieldAt P t f, x with
 | some (off, ft, _), .agg cs => vpart P ft cs off
 | _, _ => none
theorem fieldOf_sound {P : Program} {c : Cx} {t : TypeId} {f : Nat} {x v : AV} {X : Value} (hX : Rel c x X) (h : vfieldOf P t f x = some v) : ∃ V, (Instr.field t X f).run P c.w = .ok V c.w ∧ Rel c v V := by
 unfold vfieldOf at h
 split at h
 · rename_i off ft n cs hf
   obtain ⟨fields, fd, hu, hfd, ho, ht, hn⟩ := fieldAt_of hf
   subst ho; subst ht
   have hX' := hX
   cases hX with
   | agg _ Vs hl h1 h2 =>
     obtain ⟨V, hr, hV⟩ := part_sound hX' h c.w
     exact ⟨V, by simp [Instr.field, run_un hu, hfd, asAgg, hr], hV⟩
 cases h
def vindex (P : Program) (t : TypeId) (x ix : AV) : Option AV :=
 match x, ix with
 | .str s, .int _ n => match P.underlying t with
   | some .string => if 0 ≤ n then match s[n.toNat]? with
    | some b => some (.int .u8 b.toNat)
    | none => none
     else none
   | _ => none
 | .agg cs, .int _ n => match elemAt P t with
   | some (some len, e, sz) => if 0 ≤ n ∧ n < len then vpart P e cs (n.toNat * sz) else none
   | _ => none
 | _, _ => none
theorem index_sound {P : Program} {c : Cx} {t : TypeId} {x ix v : AV} {X IX : Value} (hX : Rel c x X) (hI : Rel c ix IX) (h : vindex P t x ix = some v) : ∃ V, (Instr.index t X IX).run P c.w = .ok V c.w ∧ Rel c v V := by
 unfold vindex at h
 split at h
 · rename_i s k n
   cases hX
   cases hI
   split at h
   · rename_i hu
     split at h
     · rename_i h0
       split at h
       · rename_i b hb
         cases h
         exact ⟨_, by simp [Instr.index, asIntOf, run_un hu, h0, hb], .int _ _⟩
       cases h
     cases h
   cases h
 · rename_i cs k n
   cases hI
   split at h
   · rename_i len e sz he
     obtain ⟨hsz, hu⟩ := elemAt_of he
     obtain ⟨len', hl', hu⟩ := hu.resolve_left (fun h => by cases h.1)
     cases hl'
     split at h
     · rename_i hb
       have hX' := hX
       cases hX with
       | agg _ Vs hl h1 h2 =>
         obtain ⟨V, hr, hV⟩ := part_sound hX' h c.w
         exact ⟨V, by simp [Instr.index, asIntOf, run_un hu, hb.1, hb.2, run_sz hsz, hr], hV⟩
     cases h
   cases h
 cases h
def vextract (x : AV) (i : Nat) : Option AV :=
 match x with
 | .tup vs => vs[i]?
 | _ => none
theorem extract_sound {P : Program} {c : Cx} {x v : AV} {X : Value} {i : Nat} (hX : Rel c x X) (h : vextract x i = some v) : ∃ V, (Instr.extract X i).run P c.w = .ok V c.w ∧ Rel c v V := by
 unfold vextract at h
 split at h
 · cases hX with
   | tup cs Vs hl h2 =>
     have hj := (List.getElem?_eq_some_iff.1 h).1
     have hV : Vs[i]? = some Vs[i] := Array.getElem?_eq_getElem (by omega)
     exact ⟨_, by simp [Instr.extract, hV], h2 i v _ h hV⟩
 cases h
end Go.Vi
namespace Go.Vi
def vbits (op : BinOp) (k : IntKind) (x y : Int) : Option Int :=
 let a := BitVec.ofInt k.bits x
 let b := BitVec.ofInt k.bits y
 match op with
 | .and => some (k.wrap (a &&& b).toNat)
 | .or => some (k.wrap (a ||| b).toNat)
 | .xor => some (k.wrap (a ^^^ b).toNat)
 | .andNot => some (k.wrap (a &&& ~~~b).toNat)
 | _ => none
def vint (op : BinOp) (k : IntKind) (a b : Int) : Option AV :=
 match op with
 | .add => some (.int k (k.wrap (a + b)))
 | .sub => some (.int k (k.wrap (a - b)))
 | .mul => some (.int k (k.wrap (a * b)))
 | .quo => if b = 0 then none else some (.int k (k.wrap (a.tdiv b)))
 | .rem => if b = 0 then none else some (.int k (a.tmod b))
 | .and | .or | .xor | .andNot => (vbits op k a b).map (.int k)
 | .eql => some (.bool (a == b))
 | .neq => some (.bool (a != b))
 | .lss => some (.bool (a < b))
 | .leq => some (.bool (a ≤ b))
 | .gtr => some (.bool (a > b))
 | .geq => some (.bool (a ≥ b))
 | _ => none
def seq (x y : ByteArray) : Bool := x.toList == y.toList
def sless (x y : ByteArray) : Bool := Op.bytesLess x.toList y.toList
def vstr (op : BinOp) (x y : ByteArray) : Option AV :=
 match op with
 | .add => if ((x.size + y.size : Nat) : Int) > IntKind.i64.max then none else some (.str (x ++ y))
 | .eql => some (.bool (seq x y))
 | .neq => some (.bool (!seq x y))
 | .lss => some (.bool (sless x y))
 | .leq => some (.bool (sless x y || seq x y))
 | .gtr => some (.bool (!(sless x y || seq x y)))
 | .geq => some (.bool (!sless x y))
 | _ => none
def veqNil (P : Program) (t : TypeId) (x y : AV) : Option Bool :=
 match P.underlying t, x, y with
 | some (.pointer _), .nilp, .nilp => some true
 | some (.pointer _), .nilp, .ptr .. | some (.pointer _), .ptr .., .nilp | some (.pointer _), .nilp, .iptr .. | some (.pointer _), .iptr .., .nilp => some false
 | some (.slice _), .nils, .nils => some true
 | some (.slice _), .nils, .list .. | some (.slice _), .list .., .nils | some (.slice _), .nils, .row .. | some (.slice _), .row .., .nils
 | some (.slice _), .nils, .sub .. | some (.slice _), .sub .., .nils => some false
 | some (.map ..), .nilm, .nilm => some true
 | some (.map ..), .nilm, .mapr _ | some (.map ..), .mapr _, .nilm => some false
 | some (.func ..), .nilf, .nilf => some true
 | some (.func ..), .nilf, .clo .. | some (.func ..), .clo .., .nilf => some false
 | some .bool, .bool a, .bool b => some (a == b)
 | _, _, _ => none
def vbin (P : Program) (op : BinOp) (t : TypeId) (x y : AV) : Option AV :=
 match x, y with
 | .int k a, .int k' b => match op with
   | .shl => if b < 0 then none else some (.int k (k.wrap (a * 2 ^ (min b.toNat k.bits))))
   | .shr => if b < 0 then none else some (.int k (a.fdiv (2 ^ (min b.toNat k.bits))))
   | _ => if k = k' then vint op k a b else none
 | .str a, .str b => vstr op a b
 | _, _ => match op with
   | .eql => (veqNil P t x y).map .bool
   | .neq => (veqNil P t x y).map fun b => .bool (!b)
   | _ => none
theorem vint_sound {P : Program} {op : BinOp} {k : IntKind} {a b : Int} {v : AV} (h : vint op k a b = some v) (t : TypeId) (w : World) (hs : op ≠ .shl ∧ op ≠ .shr) :
 ∃ V, (binOp op t (.int k a) (.int k b)).run P w = .ok V w ∧ ∀ c, Rel c v V := by
 cases op <;> simp only [vint] at h <;> first
  | (cases h; refine ⟨_, ?_, fun c => .int k _⟩; simp [binOp, Op.intArith]; done)
  | (cases h; refine ⟨_, ?_, fun c => .bool _⟩; simp [binOp, Op.intCmp]; done)
  | (split at h
     · cases h
     rename_i h0
     cases h
     refine ⟨_, ?_, fun c => .int k _⟩
     simp [binOp, Op.intDiv, h0])
  | (simp only [vbits, Option.map_some, Option.some.injEq] at h
     subst h
     refine ⟨_, ?_, fun c => .int k _⟩
     simp [binOp, Op.intBits])
  | (cases h; done)
  | (exact absurd rfl hs.1)
  | (exact absurd rfl hs.2)
theorem vstr_sound {P : Program} {op : BinOp} {a b : ByteArray} {v : AV} (h : vstr op a b = some v) (t : TypeId) (w : World) :
 ∃ V, (binOp op t (.string a) (.string b)).run P w = .ok V w ∧ ∀ c, Rel c v V := by
 cases op <;> simp only [vstr] at h <;> first
  | (cases h; exact ⟨_, rfl, fun c => .bool _⟩)
  | (split at h
     · cases h
     rename_i h0
     cases h
     refine ⟨_, ?_, fun c => .str _⟩
     simp only [binOp, Op.stringOp, if_neg h0]
     rfl)
  | (cases h; done)
theorem equal_nil {P : Program} {c : Cx} {t : TypeId} {x y : AV} {X Y : Value} {r : Bool} (hX : Rel c x X) (hY : Rel c y Y) (h : veqNil P t x y = some r) (w : World) : (Op.equal t X Y).run P w = .ok r w := by
 have unf : Op.equal t X Y = Op.equalIn (9999 + 1) t X Y := rfl
 rw [unf, Op.equalIn, Sem.run_bind]
 unfold veqNil at h
 split at h <;> first | (cases h; done) | skip
 all_goals
  rename_i hu
  rw [run_un hu]
  cases h
  cases hX
  cases hY
  rfl
theorem eqGuard_skip {P : Program} {op : BinOp} {t : TypeId} {x y : Operand} {X Y : Value} (w : World) (h : ∀ (a b : Array Value), ¬ (X = .agg a ∧ Y = .agg b)) (h' : ¬ (X = .nilIface ∧ Y = .nilIface)) : (eqGuard op t x y X Y).run P w = .ok () w := by
 unfold eqGuard
 cases op <;> first
  | rfl
  | (cases X <;> first
   | rfl
   | (cases Y <;> first
    | rfl
    | exact absurd ⟨rfl, rfl⟩ h'
    | exact absurd ⟨rfl, rfl⟩ (h _ _)))
theorem bin_sound {P : Program} {c : Cx} {op : BinOp} {t : TypeId} {x y v : AV} {X Y : Value} (ox oy : Operand) (hX : Rel c x X) (hY : Rel c y Y) (h : vbin P op t x y = some v) :
 ∃ V, (do eqGuard op t ox oy X Y; binOp op t X Y : Sem Value).run P c.w = .ok V c.w ∧ Rel c v V := by
 unfold vbin at h
 split at h
 · rename_i k a k' b
   cases hX
   cases hY
   rw [Sem.run_bind, eqGuard_skip c.w (fun _ _ h => by cases h.1) (fun h => by cases h.1)]
   simp only [Result.andThen_ok]
   split at h
   · split at h
     · cases h
     rename_i h0
     cases h
     refine ⟨_, ?_, .int _ _⟩
     simp [binOp, Op.shift, h0]
   · split at h
     · cases h
     rename_i h0
     cases h
     refine ⟨_, ?_, .int _ _⟩
     simp [binOp, Op.shift, h0]
   rename_i h1 h2
   split at h
   · rename_i e
     subst e
     obtain ⟨V, hr, hV⟩ := vint_sound (P := P) h t c.w ⟨h1, h2⟩
     exact ⟨V, hr, hV c⟩
   cases h
 · rename_i a b
   cases hX
   cases hY
   rw [Sem.run_bind, eqGuard_skip c.w (fun _ _ h => by cases h.1) (fun h => by cases h.1)]
   simp only [Result.andThen_ok]
   obtain ⟨V, hr, hV⟩ := vstr_sound (P := P) h t c.w
   exact ⟨V, hr, hV c⟩
 have nil : ∀ r, veqNil P t x y = some r → (eqGuard op t ox oy X Y).run P c.w = .ok () c.w ∧ ∀ op', op' = .eql ∨ op' = .neq → (binOp op' t X Y).run P c.w = .ok (.bool (if op' = .eql then r else !r)) c.w := by
  intro r hr
  have he := equal_nil hX hY hr c.w
  unfold veqNil at hr
  split at hr <;> first | (cases hr; done) | skip
  all_goals
   cases hX
   cases hY
   refine ⟨eqGuard_skip c.w (fun _ _ h => by cases h.1) (fun h => by cases h.1), fun op' ho => ?_⟩
   rcases ho with rfl | rfl
   · simp only [binOp, Sem.run_bind, he, Result.andThen_ok, if_true]
     rfl
   · simp only [binOp, Sem.run_bind, he, Result.andThen_ok, if_true]
     rfl
 split at h
 · cases hr : veqNil P t x y with
   | none => rw [hr] at h; cases h
   | some r =>
     rw [hr] at h
     cases h
     obtain ⟨h1, h2⟩ := nil r hr
     rw [Sem.run_bind, h1]
     exact ⟨_, h2 .eql (.inl rfl), .bool _⟩
 · cases hr : veqNil P t x y with
   | none => rw [hr] at h; cases h
   | some r =>
     rw [hr] at h
     cases h
     obtain ⟨h1, h2⟩ := nil r hr
     rw [Sem.run_bind, h1]
     exact ⟨_, h2 .neq (.inr rfl), .bool _⟩
 cases h
def vun (op : UnOp) (x : AV) : Option AV :=
 match op, x with
 | .neg, .int k n => some (.int k (k.wrap (0 - n)))
 | .xor, .int k n => (vbits .xor k (if k.signed then -1 else k.max) n).map (.int k)
 | .not, .bool b => some (.bool !b)
 | _, _ => none
theorem un_sound {P : Program} {c : Cx} {op : UnOp} {x v : AV} {X : Value} (hX : Rel c x X) (h : vun op x = some v) : ∃ V, (Op.unary op X).run P c.w = .ok V c.w ∧ Rel c v V := by
 unfold vun at h
 split at h
 · cases h; cases hX; exact ⟨_, rfl, .int _ _⟩
 · simp only [vbits, Option.map_some, Option.some.injEq] at h
   subst h
   cases hX
   exact ⟨_, by simp [Op.unary, Op.intBits], .int _ _⟩
 · cases h; cases hX; exact ⟨_, rfl, .bool _⟩
 cases h
def vconvInt (P : Program) (src dst : TypeId) (x : AV) : Option AV :=
 match P.underlying src, P.underlying dst, x with
 | some _, some (.int k), .int _ n => some (.int k (k.wrap n))
 | some _, some .string, .str s => some (.str s)
 | some _, some .string, .int _ n => some (.str (Utf8.encode n))
 | _, _, _ => none
theorem convInt_sound {P : Program} {c : Cx} {src dst : TypeId} {x v : AV} {X : Value} (hX : Rel c x X) (h : vconvInt P src dst x = some v) : ∃ V, (convert src dst X).run P c.w = .ok V c.w ∧ Rel c v V := by
 unfold vconvInt at h
 split at h
 · rename_i ds k k' n hs hd
   cases h; cases hX
   refine ⟨_, ?_, .int _ _⟩
   simp only [convert, Sem.run_bind, run_un hs, run_un hd, Result.andThen_ok]
   rfl
 · rename_i ds s hs hd
   cases h; cases hX
   refine ⟨_, ?_, .str _⟩
   simp only [convert, Sem.run_bind, run_un hs, run_un hd, Result.andThen_ok]
   cases ds <;> rfl
 · rename_i ds k n hs hd
   cases h; cases hX
   refine ⟨_, ?_, .str _⟩
   simp only [convert, Sem.run_bind, run_un hs, run_un hd, Result.andThen_ok]
   cases ds <;> rfl
 cases h
def chunk (es : Nat) : Nat → List AV → List (List AV)
 | 0, _ => []
 | n + 1, cs => cs.take es :: chunk es n (cs.drop es)
def rowsOf (H : Hp) : AV → Option (List (List AV))
 | .nils => some []
 | .list _ rows => some rows
 | .row _ l i n => match H[l]? with
   | some (.arr _ _ rows) | some (.frz _ rows) => if i + n ≤ rows.length then some ((rows.drop i).take n) else none
   | _ => none
 | .sub l i k es n => match H[l]? with
   | some (.arr _ _ rows) | some (.frz _ rows) => match rows[i]? with
     | some r => if k + n * es ≤ r.length then some (chunk es n (r.drop k)) else none
     | none => none
   | _ => none
 | _ => none
theorem chunk_length (es : Nat) : ∀ (n : Nat) (cs : List AV), (chunk es n cs).length = n
 | 0, _ => rfl
 | n + 1, cs => by simp [chunk, chunk_length es n]
theorem chunk_get (es : Nat) : ∀ (n : Nat) (cs : List AV) (i : Nat), i < n → (chunk es n cs)[i]? = some ((cs.drop (i * es)).take es)
 | 0, _, _, h => by omega
 | n + 1, cs, 0, _ => by simp [chunk]
 | n + 1, cs, i + 1, h => by
   simp only [chunk, List.getElem?_cons_succ]
   rw [chunk_get es n _ i (by omega), List.drop_drop]
   congr 3
   rw [Nat.add_mul]
   omega
def SliceAt (c : Cx) (V : Value) (sz : Nat) (rows : List (List AV)) : Prop :=
 (∃ base cap, V = .slice base 0 cap ∧ rows = []) ∨ ∃ b o cap, V = .slice (some ⟨b, o, none⟩) rows.length cap ∧ ∀ (i : Nat) (r : List AV), rows[i]? = some r → r.length = sz ∧ CellsAt c b (o + i * sz) r
theorem rows_sound {c : Cx} {H : Hp} (s : Sim c H) {x : AV} {X : Value} (hX : Rel c x X) {rows : List (List AV)} (h : rowsOf H x = some rows) {sz : Nat} (hsz : lenOk sz rows = true) : SliceAt c X sz rows := by
 have hlen : ∀ (i : Nat) (r : List AV), rows[i]? = some r → r.length = sz := fun i r hr => by
  have := List.all_eq_true.1 hsz r (List.mem_of_getElem? hr)
  simpa using this
 unfold rowsOf at h
 split at h
 · cases h; cases hX; exact .inl ⟨_, _, rfl, rfl⟩
 · cases h
   cases hX with
   | list _ _ b o sz' cap sp hsp F hb hc ht hs hv h1 h2 =>
     by_cases h0 : rows = []
     · subst h0
       exact .inl ⟨_, _, rfl, rfl⟩
     obtain rfl := hsp.resolve_left h0
     refine .inr ⟨b, o, cap, rfl, fun i r hr => ⟨hlen i r hr, fun j x hx => ?_⟩⟩
     have e : sz' = sz := (hs r (List.mem_of_getElem? hr)).symm.trans (hlen i r hr)
     subst e
     have hj := (List.getElem?_eq_some_iff.1 hx).1
     have := h1 i j (List.getElem?_eq_some_iff.1 hr).1 (by rw [hlen i r hr] at hj; exact hj)
     exact ⟨F i j, this.1, this.2, h2 i r j x hr hx⟩
 · rename_i t l i n
   have key : ∀ {sz' : Nat} {rows0 : List (List AV)}, (∃ T, H[l]? = some (.arr T sz' rows0)) ∨ H[l]? = some (.frz sz' rows0) → (if i + n ≤ rows0.length then some ((rows0.drop i).take n) else none) = some rows → SliceAt c X sz rows := by
    intro sz' rows0 hl h
    split at h
    · rename_i hle
      cases h
      cases hX with
      | row _ _ _ _ cl o cap hρ ho hn ht hlim =>
        have hn' : ((rows0.drop i).take n).length = n := by simp; omega
        refine .inr ⟨cl.blk, o, cap, by rw [hn'], fun q r hr => ⟨hlen q r hr, fun j x hx => ?_⟩⟩
        have hq : q < n := by have := (List.getElem?_eq_some_iff.1 hr).1; omega
        have hr' : rows0[i + q]? = some r := by
         rw [List.getElem?_take, if_pos hq, List.getElem?_drop] at hr
         exact hr
        have ho' : o = cl.base + i * cl.sz := ho.resolve_right (by omega)
        have fin : ∀ {cells : Array Value} {T : TypeId} {fr : Nat × Nat}, c.w.heap[cl.blk]? = some (.cells cells T fr) → RowsAt c cells cl.base cl.sz rows0 → ∃ V, c.w.cell? ⟨cl.blk, o + q * sz + j, none⟩ = some V ∧ V.oneCell' = true ∧ Rel c x V := by
         intro cells T fr hh hR
         have e : cl.sz = sz := ((hR _ r hr').1).symm.trans (hlen q r hr)
         have := RowsAt.cells (k := 0) hh hR hr' j x (by simpa using hx)
         obtain ⟨V, v1, v2, v3⟩ := this
         refine ⟨V, ?_, v2, v3⟩
         rw [← v1, ho', ← e, Nat.add_mul]
         congr 2
         omega
        rcases hl with ⟨T, hl⟩ | hl
        · obtain ⟨cl', cells, e1, e2, e3, e4, e5, e6, e7⟩ := s.obj l _ hl
          rw [hρ] at e1
          cases e1
          subst e2
          exact fin e3 e7
        obtain ⟨e0, cl', cells, T, fr, e1, e2, e3, e4, e5, e6⟩ := s.obj l _ hl
        rw [hρ] at e1
        cases e1
        subst e2
        exact fin e3 e6
    cases h
   split at h
   · rename_i T sz' rows0 hl; exact key (.inl ⟨T, hl⟩) h
   · rename_i sz' rows0 hl; exact key (.inr hl) h
   cases h
 · rename_i l i k es n
   have key : ∀ {sz' : Nat} {rows0 : List (List AV)}, (∃ T, H[l]? = some (.arr T sz' rows0)) ∨ H[l]? = some (.frz sz' rows0) → (match rows0[i]? with | some r => if k + n * es ≤ r.length then some (chunk es n (r.drop k)) else none | none => none) = some rows → SliceAt c X sz rows := by
    intro sz' rows0 hl h
    split at h
    · rename_i r0 hr0
      split at h
      · rename_i hle
        cases h
        cases hX with
        | sub _ _ _ _ _ cl o cap hρ ho hn =>
          refine .inr ⟨cl.blk, o, cap, by rw [chunk_length], fun q r hr => ⟨hlen q r hr, fun j x hx => ?_⟩⟩
          have hq : q < n := by have := (List.getElem?_eq_some_iff.1 hr).1; rw [chunk_length] at this; exact this
          have ho' := ho.resolve_right (by omega)
          have hl' := hlen q r hr
          rw [chunk_get _ _ _ _ hq] at hr
          cases hr
          have hes : es = sz := by
           rw [← hl', List.length_take, List.length_drop, List.length_drop]
           have := Nat.mul_le_mul_right es (show q + 1 ≤ n by omega)
           rw [Nat.add_mul, Nat.one_mul] at this
           omega
          subst hes
          have fin : ∀ {cells : Array Value} {T : TypeId} {fr : Nat × Nat}, c.w.heap[cl.blk]? = some (.cells cells T fr) → RowsAt c cells cl.base cl.sz rows0 → ∃ V, c.w.cell? ⟨cl.blk, o + q * es + j, none⟩ = some V ∧ V.oneCell' = true ∧ Rel c x V := by
           intro cells T fr hh hR
           rw [List.getElem?_take] at hx
           split at hx
           · rw [List.getElem?_drop, List.getElem?_drop] at hx
             have := RowsAt.cells (k := 0) hh hR hr0 (k + (q * es + j)) x (by simpa using hx)
             obtain ⟨V, v1, v2, v3⟩ := this
             refine ⟨V, ?_, v2, v3⟩
             rw [← v1, ho']
             congr 2
             omega
           cases hx
          rcases hl with ⟨T, hl⟩ | hl
          · obtain ⟨cl', cells, e1, e2, e3, e4, e5, e6, e7⟩ := s.obj l _ hl
            rw [hρ] at e1
            cases e1
            subst e2
            exact fin e3 e7
          obtain ⟨e0, cl', cells, T, fr, e1, e2, e3, e4, e5, e6⟩ := s.obj l _ hl
          rw [hρ] at e1
          cases e1
          subst e2
          exact fin e3 e6
      cases h
    cases h
   split at h
   · rename_i T sz' rows0 hl; exact key (.inl ⟨T, hl⟩) h
   · rename_i sz' rows0 hl; exact key (.inr hl) h
   cases h
 cases h
def vlen (P : Program) (H : Hp) (t : TypeId) (x : AV) : Option AV :=
 match P.underlying t, x with
 | some .string, .str s => some (.int .i64 s.size)
 | some (.array n _), _ => some (.int .i64 n)
 | some (.slice _), .nils => some (.int .i64 0)
 | some (.slice _), .list _ rows => some (.int .i64 rows.length)
 | some (.slice _), .row _ _ _ n => some (.int .i64 n)
 | some (.slice _), .sub _ _ _ _ n => some (.int .i64 n)
 | some (.map _ _), .nilm => some (.int .i64 0)
 | some (.map _ _), .mapr l => match H[l]? with
   | some (.map es) => some (.int .i64 es.length)
   | _ => none
 | _, _ => none
theorem run_getObj_map {P : Program} {w : World} {r : Nat} {ms : Array MapEntry} {clock : Nat} (h : w.heap[r]? = some (.map ms clock)) : (getObj r).run P w = .ok (.map ms clock) w := by
 simp [getObj, Sem.run, h]
theorem len_sound {P : Program} {c : Cx} {H : Hp} (s : Sim c H) {t ty : TypeId} {ts : Array TypeId} {x v : AV} {X : Value} (hts : ts[0]? = some t) (hX : Rel c x X) (h : vlen P H t x = some v) :
 ∃ V, (Builtin.len_ ts ty #[X]).run P c.w = .ok V c.w ∧ Rel c v V := by
 unfold vlen at h
 split at h
 all_goals first | (cases h; done) | skip
 · rename_i s hu; cases h; cases hX; exact ⟨_, by simp [Builtin.len_, hts, run_un hu]; rfl, .int _ _⟩
 · rename_i n e hu; cases h; exact ⟨_, by simp [Builtin.len_, hts, run_un hu]; rfl, .int _ _⟩
 · rename_i e hu; cases h; cases hX; exact ⟨_, by simp [Builtin.len_, hts, run_un hu]; rfl, .int _ _⟩
 · rename_i e tg rows hu; cases h; cases hX; exact ⟨_, by simp [Builtin.len_, hts, run_un hu]; rfl, .int _ _⟩
 · rename_i e t' l i n hu; cases h; cases hX; exact ⟨_, by simp [Builtin.len_, hts, run_un hu]; rfl, .int _ _⟩
 · rename_i e l i k es n hu; cases h; cases hX; exact ⟨_, by simp [Builtin.len_, hts, run_un hu]; rfl, .int _ _⟩
 · rename_i k e hu; cases h; cases hX; exact ⟨_, by simp [Builtin.len_, hts, run_un hu]; rfl, .int _ _⟩
 rename_i k e l hu
 split at h
 · rename_i es hl
   cases h
   cases hX with
   | mapr _ cl hρ =>
     obtain ⟨cl', ms, e1, e2, e3, e4, e5, e6⟩ := s.obj l _ hl
     rw [hρ] at e1
     cases e1
     refine ⟨.int .i64 es.length, ?_, .int _ _⟩
     simp [Builtin.len_, hts, run_un hu, run_getObj_map e2, goInt, e5]
 cases h
end Go.Vi
namespace Go.Vi
def RelO (c : Cx) : Option AV → Option Value → Prop
 | none, none => True
 | some x, some X => Rel c x X
 | _, _ => False
def bnd (x : Option AV) (d : Nat) : Option Nat :=
 match x with
 | none => some d
 | some (.int _ n) => if 0 ≤ n then some n.toNat else none
 | _ => none
def vbounds (len : Nat) (lo hi mx : Option AV) : Option (Nat × Nat × Option Nat) :=
 match bnd lo 0, bnd hi len, bnd mx len with
 | some l, some h, some m => if l ≤ h ∧ h ≤ m ∧ m ≤ len ∧ (mx.isSome = true → hi.isSome = true) then some (l, h, if mx.isSome then some m else none) else none
 | _, _, _ => none
theorem bnd_sound {P : Program} {c : Cx} {x : Option AV} {X : Option Value} (hX : RelO c x X) {d n : Nat} (h : bnd x d = some n) :
 (X = none ∧ n = d) ∨ ∃ V, X = some V ∧ ∀ (y : Nat) (code : BoundsCode) (w : World), n ≤ y → (Instr.sliceBound V y code).run P w = .ok n w := by
 unfold bnd at h
 split at h
 · cases h
   cases X with
   | none => exact .inl ⟨rfl, rfl⟩
   | some V => exact hX.elim
 · rename_i k q
   split at h
   · rename_i h0
     cases h
     cases X with
     | none => exact hX.elim
     | some V =>
       cases hX
       refine .inr ⟨_, rfl, fun y code w hy => ?_⟩
       have : q ≤ (y : Int) := by omega
       simp [Instr.sliceBound, asIntOf, h0, this]
   cases h
 cases h
theorem bounds_sound {P : Program} {c : Cx} {lo hi mx : Option AV} {LO HI MX : Option Value} (h1 : RelO c lo LO) (h2 : RelO c hi HI) (h3 : RelO c mx MX) {len l h : Nat} {mo : Option Nat}
 (hb : vbounds len lo hi mx = some (l, h, mo)) : l ≤ h ∧ h ≤ len ∧ (∀ m, mo = some m → h ≤ m ∧ m ≤ len) ∧ (MX = none → mo = none) ∧
  ∀ (b : Bool) (cap : Nat) (w : World), len ≤ cap → (Instr.sliceBounds b len cap LO HI MX).run P w = .ok (l, h, mo.getD cap) w := by
 unfold vbounds at hb
 split at hb
 · rename_i l' h' m' e1 e2 e3
   split at hb
   · rename_i hc
     obtain ⟨c1, c2, c3, c4⟩ := hc
     cases hb
     refine ⟨c1, by omega, fun m hm => ?_, fun e => ?_, fun b cap w hcap => ?_⟩
     · split at hm
       · cases hm; exact ⟨c2, c3⟩
       cases hm
     · subst e
       cases mx with
       | none => rfl
       | some x => exact h3.elim
     have r1 := bnd_sound (P := P) h1 e1
     have r2 := bnd_sound (P := P) h2 e2
     have r3 := bnd_sound (P := P) h3 e3
     unfold Instr.sliceBounds
     have hmx : MX.isSome = mx.isSome := by
      cases mx <;> cases MX <;> first | rfl | exact h3.elim
     have hhi : HI.isSome = hi.isSome := by
      cases hi <;> cases HI <;> first | rfl | exact h2.elim
     rcases r3 with ⟨rfl, e⟩ | ⟨M, rfl, rm⟩
     · rw [← hmx]
       rcases r2 with ⟨rfl, e'⟩ | ⟨Hh, rfl, rh⟩
       · rcases r1 with ⟨rfl, e''⟩ | ⟨L, rfl, rl⟩
         · simp; omega
         simp [rl _ _ _ (show l ≤ len by omega)]; omega
       rcases r1 with ⟨rfl, e''⟩ | ⟨L, rfl, rl⟩
       · simp [rh _ _ _ (show h ≤ cap by omega)]; omega
       simp [rh _ _ _ (show h ≤ cap by omega), rl _ _ _ c1]
     rw [← hmx]
     have hs := c4 (by rw [← hmx]; rfl)
     rw [← hhi] at hs
     rcases r2 with ⟨rfl, e'⟩ | ⟨Hh, rfl, rh⟩
     · cases hs
     rcases r1 with ⟨rfl, e''⟩ | ⟨L, rfl, rl⟩
     · simp [rm _ _ _ (show m' ≤ cap by omega), rh _ _ _ c2]; omega
     simp [rm _ _ _ (show m' ≤ cap by omega), rh _ _ _ c2, rl _ _ _ c1]
   cases hb
 cases hb
def cutTag (tg : Tg) (len l h : Nat) (mo : Option Nat) : Tg :=
 if tg = .bor then (if mo = some h ∧ l = h then .tight else .bor)
 else match mo with
  | some m => if m = h then .tight else .loose
  | none => if tg = .tight ∧ h = len then .tight else .loose
def cutT (t : Bool) (len h : Nat) (mo : Option Nat) : Bool :=
 match mo with
 | some m => m == h
 | none => t && h == len
def vslice (P : Program) (H : Hp) (t : TypeId) (x : AV) (lo hi mx : Option AV) : Option AV :=
 match P.underlying t with
 | some .string => match x, mx with
   | .str s, none => match vbounds s.size lo hi none with
     | some (l, h, _) => some (.str (s.extract l h))
     | none => none
   | _, _ => none
 | some (.slice e) => match szOf P e with
   | none => none
   | some sz => match x with
     | .nils => match vbounds 0 lo hi mx with
       | some _ => some .nils
       | none => none
     | .list tg rows => match vbounds rows.length lo hi mx with
       | some (l, h, mo) => if lenOk sz rows then some (.list (cutTag tg rows.length l h mo) ((rows.drop l).take (h - l))) else none
       | none => none
     | .row tt l0 i n => match vbounds n lo hi mx, H[l0]? with
       | some (l, h, mo), some (.arr _ sz' _) | some (l, h, mo), some (.frz sz' _) => if sz' = sz then some (.row (cutT tt n h mo) l0 (i + l) (h - l)) else none
       | _, _ => none
     | .sub l0 i k es n => match vbounds n lo hi mx with
       | some (l, h, _) => if es = sz then some (.sub l0 i (k + l * es) es (h - l)) else none
       | none => none
     | _ => none
 | some (.array n e) => match szOf P e, x with
   | some sz, .ptr l0 i k => match vbounds n lo hi mx with
     | some (l, h, _) => some (.sub l0 i (k + l * sz) sz (h - l))
     | none => none
   | _, _ => none
 | _ => none
theorem slice_sound {P : Program} {c : Cx} {H : Hp} (s : Sim c H) {t : TypeId} {x v : AV} {X : Value} {lo hi mx : Option AV} {LO HI MX : Option Value} (hX : Rel c x X)
 (h1 : RelO c lo LO) (h2 : RelO c hi HI) (h3 : RelO c mx MX) (h : vslice P H t x lo hi mx = some v) : ∃ V, (Instr.sliceAt t X LO HI MX).run P c.w = .ok V c.w ∧ Rel c v V := by
 unfold vslice at h
 split at h
 · rename_i hu
   split at h
   · rename_i sb
     split at h
     · rename_i l hh mo hb
       cases h
       cases hX
       have hM : MX = none := by cases MX with | none => rfl | some V => exact h3.elim
       subst hM
       obtain ⟨b1, b2, b3, b4, run⟩ := bounds_sound (P := P) h1 h2 h3 hb
       refine ⟨_, ?_, .str _⟩
       simp [Instr.sliceAt, Instr.slice, run_un hu, run false sb.size c.w (Nat.le_refl _)]
     cases h
   cases h
 · rename_i e hu
   split at h
   · cases h
   rename_i sz hsz
   split at h
   · split at h
     · rename_i b hb
       obtain ⟨l, hh, mo⟩ := b
       cases h
       cases hX
       obtain ⟨b1, b2, b3, b4, run⟩ := bounds_sound (P := P) h1 h2 h3 hb
       refine ⟨.slice none 0 0, ?_, .nils⟩
       have hm : mo.getD 0 = 0 := by
        cases mo with
        | none => rfl
        | some m => have := b3 m rfl; simp; omega
       simp [Instr.sliceAt, Instr.slice, run_un hu, run true 0 c.w (Nat.le_refl _), run_sz hsz, hm]
       omega
     cases h
   · rename_i tg rows
     split at h
     · rename_i l hh mo hb
       split at h
       · rename_i hlo
         cases h
         have hX' := hX
         cases hX with
         | list _ _ b o sz' cap sp hsp F hb' hc ht hs hv g1 g2 =>
           obtain ⟨b1, b2, b3, b4, run⟩ := bounds_sound (P := P) h1 h2 h3 hb
           have hcap : hh ≤ mo.getD cap ∧ mo.getD cap ≤ cap := by
            cases mo with
            | none => simp; omega
            | some m => have := b3 m rfl; simp; omega
           by_cases h0 : rows = []
           · subst h0
             have hh0 : hh = 0 := by simp at b2; omega
             have hl0 : l = 0 := by omega
             subst hh0
             subst hl0
             refine ⟨.slice (some ⟨b, o, sp⟩) 0 (mo.getD cap), ?_, ?_⟩
             · simp only [Instr.sliceAt, Instr.slice, run_un hu, Sem.run_bind, Result.andThen_ok, run true cap c.w hc, run_sz hsz]
               split <;> simp [Addr.add]
             have := Rel.list (c := c) (cutTag tg 0 0 0 mo) [] b o sz (mo.getD cap) sp (.inl rfl) F (.inl rfl) (by simp) (fun e => ?_) (fun r hr => by cases hr) rfl (fun i j hi hj => by simp at hi) (fun i r j x hr hx => by cases hr)
             · simpa using this
             unfold cutTag at e
             cases mo with
             | some m => have := b3 m rfl; simp only [List.length_nil, Option.getD_some] at this ⊢; omega
             | none =>
               split at e
               · split at e
                 · rename_i e2; simp at e2
                 cases e
               simp only at e
               split at e
               · rename_i e2; have := ht e2.1; simpa using this
               cases e
           obtain rfl := hsp.resolve_left h0
           have hlen : ((rows.drop l).take (hh - l)).length = hh - l := by simp; omega
           refine ⟨.slice (some ⟨b, if mo.getD cap = l then o else o + l * sz, none⟩) (hh - l) (mo.getD cap - l), ?_, ?_⟩
           · simp only [Instr.sliceAt, Instr.slice, run_un hu, Sem.run_bind, Result.andThen_ok, run true cap c.w hc, run_sz hsz]
             split <;> simp [add_spot]
           have hrow : ∀ i r, ((rows.drop l).take (hh - l))[i]? = some r → rows[l + i]? = some r ∧ i < hh - l := fun i r hr => by
            have hi : i < hh - l := by have := (List.getElem?_eq_some_iff.1 hr).1; omega
            rw [List.getElem?_take, if_pos hi, List.getElem?_drop] at hr
            exact ⟨hr, hi⟩
           have key : ∀ o', (hh - l ≠ 0 → o' = o + l * sz) → Rel c (.list (cutTag tg rows.length l hh mo) ((rows.drop l).take (hh - l))) (.slice (some ⟨b, o', none⟩) ((rows.drop l).take (hh - l)).length (mo.getD cap - l)) := by
            intro o' ho'
            refine .list _ _ b o' sz _ none (.inr rfl) (fun i j => F (l + i) j) ?_ (by omega) (fun e => ?_) (fun r hr => ?_) ?_ (fun i j hi hj => ?_) (fun i r j x hr hx => ?_)
            · by_cases e : hh - l = 0
              · exact .inl (List.eq_nil_of_length_eq_zero (by omega))
              refine .inr ?_
              have hI : tg.In c b := hb'.resolve_left (fun e2 => by subst e2; simp at b2; omega)
              unfold cutTag
              split
              · rename_i e2
                rw [if_neg (fun h => e (by omega))]
                subst e2
                exact hI
              rename_i e2
              have hI' : c.I b := by cases tg <;> first | exact hI | exact absurd rfl e2
              split <;> split <;> exact hI'
            · unfold cutTag at e
              split at e
              · split at e
                · rename_i e3; rw [e3.1, hlen]; rfl
                cases e
              split at e
              · split at e
                · rename_i e3; subst e3; rw [hlen]; rfl
                cases e
              split at e
              · rename_i e3
                rw [hlen, e3.2]
                have := ht e3.1
                simp [this]
              cases e
            · have := List.all_eq_true.1 hlo r (List.mem_of_mem_drop (List.mem_of_mem_take hr))
              simpa using this
            · exact List.all_eq_true.2 (fun r hr => List.all_eq_true.1 hv r (List.mem_of_mem_drop (List.mem_of_mem_take hr)))
            · rw [hlen] at hi
              have hr : rows[l + i]? = some rows[l + i] := List.getElem?_eq_getElem (by omega)
              have e1 : sz' = sz := by
               have a1 := hs _ (List.mem_of_getElem? hr)
               have a2 := List.all_eq_true.1 hlo _ (List.mem_of_getElem? hr)
               simp at a2
               omega
              subst e1
              have := g1 (l + i) j (by omega) hj
              rw [ho' (by omega)]
              rw [Nat.add_mul] at this
              have e4 : o + l * sz' + i * sz' + j = o + (l * sz' + i * sz') + j := by omega
              rw [e4]
              exact this
            obtain ⟨hr', _⟩ := hrow i r hr
            exact g2 _ r j x hr' hx
           have := key (if mo.getD cap = l then o else o + l * sz) (fun hne => by rw [if_neg (by omega)])
           rwa [hlen] at this
       cases h
     cases h
   · rename_i tt l0 i n
     have key : ∀ {l hh : Nat} {mo : Option Nat} {sz' : Nat} {rows : List (List AV)}, vbounds n lo hi mx = some (l, hh, mo) → (∃ T, H[l0]? = some (.arr T sz' rows)) ∨ H[l0]? = some (.frz sz' rows) →
      (if sz' = sz then some (AV.row (cutT tt n hh mo) l0 (i + l) (hh - l)) else none) = some v → ∃ V, (Instr.sliceAt t X LO HI MX).run P c.w = .ok V c.w ∧ Rel c v V := by
      intro l hh mo sz' rows hb hl h
      split at h
      · rename_i e1
        cases h
        subst e1
        cases hX with
        | row _ _ _ _ cl o cap hρ ho hn ht hlim =>
          have hclsz : cl.sz = sz' := obj_sz s hl hρ
          obtain ⟨b1, b2, b3, b4, run⟩ := bounds_sound (P := P) h1 h2 h3 hb
          have hcap : hh ≤ mo.getD cap ∧ mo.getD cap ≤ cap := by
           cases mo with
           | none => simp; omega
           | some m => have := b3 m rfl; simp; omega
          refine ⟨.slice (some ⟨cl.blk, if mo.getD cap = l then o else o + l * sz', none⟩) (hh - l) (mo.getD cap - l), ?_, ?_⟩
          · simp only [Instr.sliceAt, Instr.slice, run_un hu, Sem.run_bind, Result.andThen_ok, run true cap c.w hn, run_sz hsz]
            split <;> simp [add_spot]
          refine .row _ _ _ _ cl _ _ hρ ?_ (by omega) (fun e => ?_) ?_
          · by_cases e2 : mo.getD cap = l
            · exact .inr (by omega)
            rw [if_neg e2]
            refine .inl ?_
            rcases ho with ho | ho
            · rw [ho, Nat.add_mul, hclsz]; omega
            omega
          · unfold cutT at e
            cases mo with
            | some m => simp at e; subst e; simp
            | none =>
              simp at e
              have := ht e.1
              simp; omega
          by_cases e2 : mo.getD cap = l
          · exact .inr (by omega)
          rw [if_neg e2]
          rcases hlim with hlim | hlim
          · refine .inl ?_
            rw [hclsz] at hlim ⊢
            have : l * sz' + (mo.getD cap - l) * sz' = mo.getD cap * sz' := by rw [← Nat.add_mul]; congr 1; omega
            have h5 := Nat.mul_le_mul_right sz' hcap.2
            omega
          omega
      cases h
     split at h
     · rename_i l hh mo T sz' rows hb hl; exact key hb (.inl ⟨T, hl⟩) h
     · rename_i l hh mo sz' rows hb hl; exact key hb (.inr hl) h
     cases h
   · rename_i l0 i k es n
     split at h
     · rename_i l hh mo hb
       split at h
       · rename_i e1
         cases h
         subst e1
         cases hX with
         | sub _ _ _ _ _ cl o cap hρ ho hn =>
           obtain ⟨b1, b2, b3, b4, run⟩ := bounds_sound (P := P) h1 h2 h3 hb
           have hcap : hh ≤ mo.getD cap := by
            cases mo with
            | none => simp; omega
            | some m => have := b3 m rfl; simp; omega
           refine ⟨.slice (some ⟨cl.blk, if mo.getD cap = l then o else o + l * es, none⟩) (hh - l) (mo.getD cap - l), ?_, ?_⟩
           · simp only [Instr.sliceAt, Instr.slice, run_un hu, Sem.run_bind, Result.andThen_ok, run true cap c.w hn, run_sz hsz]
             split <;> simp [add_spot]
           refine .sub _ _ _ _ _ cl _ _ hρ ?_ (by omega)
           by_cases e2 : mo.getD cap = l
           · exact .inr (by omega)
           rw [if_neg e2]
           rcases ho with ho | ho
           · exact .inl (by rw [ho]; omega)
           exact .inr (by omega)
       cases h
     cases h
   cases h
 · rename_i n e hu
   split at h
   · rename_i sz l0 i k hsz
     split at h
     · rename_i l hh mo hb
       cases h
       cases hX with
       | ptr _ _ _ cl hρ =>
         obtain ⟨b1, b2, b3, b4, run⟩ := bounds_sound (P := P) h1 h2 h3 hb
         have hcap : hh ≤ mo.getD n := by
          cases mo with
          | none => simp; omega
          | some m => have := b3 m rfl; simp; omega
         refine ⟨.slice (some ⟨cl.blk, if mo.getD n = l then cl.base + i * cl.sz + k else cl.base + i * cl.sz + k + l * sz, none⟩) (hh - l) (mo.getD n - l), ?_, ?_⟩
         · simp only [Instr.sliceAt, run_un hu, Sem.run_bind, Result.andThen_ok, Instr.sureAddr, Sem.run_pure, run false n c.w (Nat.le_refl _), run_sz hsz]
           split <;> simp [add_spot]
         refine .sub _ _ _ _ _ cl _ _ hρ ?_ (by omega)
         by_cases e2 : mo.getD n = l
         · exact .inr (by omega)
         rw [if_neg e2]
         exact .inl (by omega)
     cases h
   cases h
 cases h
end Go.Vi
namespace Go.Vi
theorem run_by {P : Program} {t : TypeId} {n : Nat} (h : byOf P t = some n) : ∃ i, (∀ w, (typeInfo t).run P w = .ok i w) ∧ i.bytes = n := by
 unfold byOf at h
 cases hi : P.info? t with
 | none => rw [hi] at h; cases h
 | some i => rw [hi] at h; cases h; exact ⟨i, by simp [typeInfo, hi], rfl⟩
def zcOf (P : Program) (t : TypeId) : Option (List AV) := (zrOf P t).bind AV.cells
theorem run_zc {P : Program} {t : TypeId} {zc : List AV} (h : zcOf P t = some zc) (w : World) :
 ∃ V, (zeroValue t).run P w = .ok V w ∧ V.cells.size = zc.length ∧ ∀ (c : Cx) (j : Nat) (x : AV), zc[j]? = some x → ∃ U, V.cells[j]? = some U ∧ U.oneCell' = true ∧ Rel c x U := by
 unfold zcOf at h
 cases hz : zrOf P t with
 | none => rw [hz] at h; cases h
 | some z =>
   rw [hz] at h
   obtain ⟨V, h1, h2⟩ := run_zr hz w
   exact ⟨V, h1, ((h2 ⟨w, fun _ => True, fun _ => True, fun _ => none⟩).cells h).1, fun c j x hx => ((h2 c).cells h).2 j x hx⟩
theorem range0 : Array.range 0 = (#[] : Array Nat) := by simp
theorem zero_cells {c : Cx} {Z : Value} {zc : List AV} {sz n m : Nat} (hz : Z.cells.size = zc.length) (hs : zc.length = sz) (h0 : sz ≠ 0) (hm : m ≤ n)
 (hc : ∀ (j : Nat) (x : AV), zc[j]? = some x → ∃ U, Z.cells[j]? = some U ∧ U.oneCell' = true ∧ Rel c x U) :
 RowsAt c ((Array.range (n * sz)).map (fun j => Z.cells[j % Z.cells.size]!)) 0 sz (List.replicate m zc) := fun i r hr => by
 have hi : i < m := by have := (List.getElem?_eq_some_iff.1 hr).1; simpa using this
 rw [List.getElem?_replicate, if_pos hi] at hr
 cases hr
 refine ⟨hs, fun j x hx => ?_⟩
 have hj : j < sz := by rw [← hs]; exact (List.getElem?_eq_some_iff.1 hx).1
 obtain ⟨U, u1, u2, u3⟩ := hc j x hx
 refine ⟨U, ?_, u2, u3⟩
 have hlt : 0 + i * sz + j < n * sz := by
  have := Nat.mul_le_mul_right sz (show i + 1 ≤ n by omega)
  rw [Nat.add_mul, Nat.one_mul] at this
  omega
 have hmod : (0 + i * sz + j) % Z.cells.size = j := by
  rw [hz, hs, Nat.zero_add, Nat.add_comm, Nat.add_mul_mod_self_right, Nat.mod_eq_of_lt hj]
 rw [Array.getElem?_map, Array.getElem?_range, if_pos hlt]
 simp only [Option.map_some, hmod]
 have hj' : j < Z.cells.size := by omega
 rw [Array.getElem?_eq_getElem hj'] at u1
 cases u1
 simp [hj']
def vmake (P : Program) (H : Hp) (t : TypeId) (ln cp : AV) : Option (AV × Hp) :=
 match elemAt P t, ln, cp with
 | some (none, e, sz), .int _ n, .int _ m => match zcOf P e, byOf P e with
   | some zc, some by_ => if zc.length = sz ∧ sz ≠ 0 ∧ by_ ≠ 0 ∧ 0 ≤ n ∧ n ≤ m ∧ m * (by_ : Int) ≤ 140737488355328 then
    some (.row (n == m) H.length 0 n.toNat, H ++ [.arr e sz (List.replicate n.toNat zc)]) else none
   | _, _ => none
 | _, _, _ => none
theorem wrap_i64 {n : Int} (h0 : 0 ≤ n) (h : n ≤ 140737488355328) : IntKind.i64.wrap n = n := IntWalk.i64_in n ⟨by omega, by omega⟩
theorem make_sound {P : Program} {c : Cx} {H H' : Hp} (s : Sim c H) {t : TypeId} {ln cp v : AV} {LN CP : Value} (hL : Rel c ln LN) (hC : Rel c cp CP) (h : vmake P H t ln cp = some (v, H')) : Yields P c H (Instr.makeSlice t LN CP) v H' := by
 unfold vmake at h
 split at h
 · rename_i e sz k n k' m he
   obtain ⟨hsz, hu⟩ := elemAt_of he
   have hu := (hu.resolve_right (fun h => by obtain ⟨_, h, _⟩ := h; cases h)).2
   split at h
   · rename_i zc by_ hzc hby
     split at h
     · rename_i hc
       obtain ⟨c1, c2, c3, c4, c5, c6⟩ := hc
       cases h
       cases hL
       cases hC
       obtain ⟨Z, z1, z2, z3⟩ := run_zc hzc c.w
       obtain ⟨ti, t1, t2⟩ := run_by hby
       have hm : m ≤ 140737488355328 := by
        have h1 : (1 : Int) ≤ by_ := by omega
        have h2 : m * 1 ≤ m * (by_ : Int) := Int.mul_le_mul_of_nonneg_left h1 (by omega)
        omega
       have wn : IntKind.i64.wrap n = n := wrap_i64 c4 (by omega)
       have wm : IntKind.i64.wrap m = m := wrap_i64 (by omega) hm
       have big : ¬ (by_ : Int) * m > 2 ^ 48 := by
        rw [Int.mul_comm]
        have : (2 ^ 48 : Int) = 281474976710656 := by decide
        omega
       have tl : (decide (m < 0) || decide ((by_ : Int) * m > 2 ^ 48)) = false := by
        simp only [Bool.or_eq_false_iff, decide_eq_false_iff_not]
        exact ⟨by omega, big⟩
       refine ⟨.slice (some ⟨c.w.heap.size, 0, none⟩) n.toNat m.toNat, _, ?_, new_rows s e (zero_cells (n := m.toNat) (m := n.toNat) z2 c1 c2 (by omega) (z3 c)), ?_⟩
       · simp only [Instr.makeSlice, Sem.run_bind, run_un hu, Result.andThen_ok, asInt, asIntOf, Sem.run_pure, t1, t2, wn, wm, tl]
         have d1 : decide (n < 0) = false := decide_eq_false (by omega)
         have d2 : decide (n > m) = false := decide_eq_false (by omega)
         rw [if_neg (by simp [d1, d2]), Sem.run_bind, run_askRoom, Result.andThen_ok, Sem.run_bind, run_sz hsz, Result.andThen_ok]
         by_cases h0 : m.toNat * sz = 0
         · simp [h0, newRow, range0]
         rw [if_neg h0]
         simp [z1, newRow]
       refine .row _ H.length 0 _ ⟨c.w.heap.size, 0, sz, _⟩ 0 m.toNat (updρ_self _ _ _) (.inl (by simp)) (by omega) (fun e => ?_) (.inl ?_)
       · have : n = m := by simpa using e
         rw [this]
       simp
     cases h
   cases h
 cases h
theorem foldl_put (off : Nat) : ∀ (vs : List Value) (k : Nat) (cells : Array Value), off + k + vs.length ≤ cells.size →
 let r := (vs.zipIdx k).foldl (fun cs (x : Value × Nat) => cs.setIfInBounds (off + x.2) x.1) cells
 r.size = cells.size ∧ ∀ m, r[m]? = if off + k ≤ m ∧ m < off + k + vs.length then vs[m - (off + k)]? else cells[m]?
 | [], k, cells, _ => by
   refine ⟨rfl, fun m => ?_⟩
   rw [if_neg (by simp only [List.length_nil]; omega)]
   rfl
 | v :: vs, k, cells, h => by
   simp only [List.length_cons] at h
   have ih := foldl_put off vs (k + 1) (cells.setIfInBounds (off + k) v) (by rw [Array.size_setIfInBounds]; omega)
   simp only [List.zipIdx_cons, List.foldl_cons]
   refine ⟨by rw [ih.1]; simp, fun m => ?_⟩
   rw [ih.2]
   by_cases h1 : off + (k + 1) ≤ m ∧ m < off + (k + 1) + vs.length
   · rw [if_pos h1, if_pos (by simp only [List.length_cons]; omega), show m - (off + k) = (m - (off + (k + 1))) + 1 by omega, List.getElem?_cons_succ]
   rw [if_neg h1]
   by_cases h2 : m = off + k
   · subst h2
     rw [if_pos (by simp only [List.length_cons]; omega)]
     rw [Array.getElem?_setIfInBounds_self_of_lt (by omega)]
     simp
   rw [if_neg (by simp only [List.length_cons]; omega), Array.getElem?_setIfInBounds_ne (by omega)]
theorem fill_cons {place : Nat → Option (Nat × Nat)} {cells : Array Value} {i off size : Nat} {V : Value} {rest : List (Nat × Value)} (hp : place i = some (off, size)) (hV : V.cells.size = size) (hf : off + size ≤ cells.size) :
 ∃ cells', Instr.fill place cells ((i, V) :: rest) = Instr.fill place cells' rest ∧ cells'.size = cells.size ∧ ∀ m, cells'[m]? = if off ≤ m ∧ m < off + size then V.cells[m - off]? else cells[m]? := by
 have h := foldl_put off V.cells.toList 0 cells (by simp; omega)
 refine ⟨V.cells.zipIdx.foldl (fun cs (c, j) => cs.setIfInBounds (off + j) c) cells, ?_, ?_, fun m => ?_⟩
 · have hc : ¬ (V.cells.size ≠ size ∨ off + V.cells.size > cells.size) := by omega
   simp only [Instr.fill, hp]
   rw [if_neg (by simpa using hc)]
 · have := h.1
   rw [← Array.foldl_toList, Array.toList_zipIdx]
   exact this
 have := h.2 m
 rw [← Array.foldl_toList, Array.toList_zipIdx]
 simp only [Nat.add_zero, Array.length_toList, hV] at this
 rw [this]
 simp
def vfillRows (sz : Nat) (rows : List (List AV)) : List (Nat × AV) → Option (List (List AV))
 | [] => some rows
 | (i, v) :: rest => match v.cells with
   | some cs => if cs.length = sz ∧ i < rows.length then vfillRows sz (rows.set i cs) rest else none
   | none => none
inductive PartsR (c : Cx) : List (Nat × AV) → List (Nat × Value) → Prop
 | nil : PartsR c [] []
 | cons {i : Nat} {x : AV} {X : Value} {r : List (Nat × AV)} {R : List (Nat × Value)} : Rel c x X → PartsR c r R → PartsR c ((i, x) :: r) ((i, X) :: R)
theorem fillRows_sound {c : Cx} {sz : Nat} (h0 : sz ≠ 0) {ps : List (Nat × AV)} {PS : List (Nat × Value)} (hp : PartsR c ps PS) : ∀ {rows rows' : List (List AV)} {cells : Array Value}, vfillRows sz rows ps = some rows' → RowsAt c cells 0 sz rows → cells.size = rows.length * sz →
 ∃ cells', Instr.fill (fun i => some (i * sz, sz)) cells PS = some cells' ∧ RowsAt c cells' 0 sz rows' ∧ cells'.size = cells.size ∧ rows'.length = rows.length := by
 induction hp with
 | nil => intro rows rows' cells h hR hs; cases h; exact ⟨cells, rfl, hR, rfl, rfl⟩
 | @cons i x X r R hX hr ih =>
   intro rows rows' cells h hR hs
   unfold vfillRows at h
   split at h
   · rename_i cs hcs
     split at h
     · rename_i hc
       obtain ⟨hlen, hi⟩ := hc
       obtain ⟨hXs, hXc⟩ := hX.cells hcs
       have hf : i * sz + sz ≤ cells.size := by
        have := Nat.mul_le_mul_right sz (show i + 1 ≤ rows.length by omega)
        rw [Nat.add_mul, Nat.one_mul] at this
        omega
       obtain ⟨cells1, e1, e2, e3⟩ := fill_cons (place := fun i => some (i * sz, sz)) (rest := R) rfl (show X.cells.size = sz by omega) hf
       have hrow : rows[i]? = some rows[i] := List.getElem?_eq_getElem hi
       have hput : RowsAt c cells1 0 sz (rows.set i (setC rows[i] 0 cs)) := by
        have hl := (hR i _ hrow).1
        refine hR.put hrow (by omega) (vs := X.cells.toList) (by simp; omega) (fun j y hy => ?_) (fun m => ?_)
        · obtain ⟨U, u1, u2, u3⟩ := hXc j y hy
          exact ⟨U, by simpa using u1, u2, u3⟩
        rw [e3]
        simp only [Nat.zero_add, Nat.add_zero, Array.length_toList, Array.getElem?_toList]
        rw [show X.cells.size = sz by omega]
       have hset : setC rows[i] 0 cs = cs := by
        have hl := (hR i _ hrow).1
        unfold setC
        rw [List.take_zero, List.nil_append, List.drop_of_length_le (by omega), List.append_nil]
       rw [hset] at hput
       obtain ⟨cells2, f1, f2, f3, f4⟩ := ih h hput (by rw [e2, hs]; simp)
       exact ⟨cells2, e1.trans f1, f2, f3.trans e2, by rw [f4]; simp⟩
     cases h
   cases h
def vbuildSlice (P : Program) (H : Hp) (t : TypeId) (len : Nat) (ps : List (Nat × AV)) : Option (AV × Hp) :=
 match elemAt P t with
 | some (none, e, sz) => match zcOf P e with
   | some zc => if zc.length = sz ∧ sz ≠ 0 ∧ len * sz ≤ 2 ^ 24 then match vfillRows sz (List.replicate len zc) ps with
    | some rows => some (.row true H.length 0 len, H ++ [.arr e sz rows])
    | none => none
     else none
   | none => none
 | _ => none
theorem buildSlice_sound {P : Program} {c : Cx} {H H' : Hp} (s : Sim c H) {t : TypeId} {len : Nat} {ps : List (Nat × AV)} {PS : Array (Nat × Value)} {v : AV} (hp : PartsR c ps PS.toList) (h : vbuildSlice P H t len ps = some (v, H')) :
 Yields P c H (Instr.buildSlice t len PS) v H' := by
 unfold vbuildSlice at h
 split at h
 · rename_i e sz he
   obtain ⟨hsz, hu⟩ := elemAt_of he
   have hu := (hu.resolve_right (fun h => by obtain ⟨_, h, _⟩ := h; cases h)).2
   split at h
   · rename_i zc hzc
     split at h
     · rename_i hc
       obtain ⟨c1, c2, c3⟩ := hc
       split at h
       · rename_i rows hf
         cases h
         obtain ⟨Z, z1, z2, z3⟩ := run_zc hzc c.w
         have hR := zero_cells (c := c) (n := len) (m := len) z2 c1 c2 (Nat.le_refl _) (z3 c)
         obtain ⟨cells, f1, f2, f3, f4⟩ := fillRows_sound c2 hp hf hR (by simp)
         refine ⟨.slice (some ⟨c.w.heap.size, 0, none⟩) len len, _, ?_, new_rows s e f2, ?_⟩
         · simp only [Instr.buildSlice, Sem.run_bind, run_un hu, Result.andThen_ok, run_sz hsz]
           rw [if_neg (by omega)]
           by_cases h0 : len * sz = 0
           · rw [if_pos h0]
             have e0 : (Array.map (fun x => (#[] : Array Value)[x % (#[] : Array Value).size]!) (Array.range (len * sz))) = (Array.range (len * sz)).map (fun j => Z.cells[j % Z.cells.size]!) := by rw [h0]; simp [range0]
             simp only [pure_bind, e0, f1]
             simp [newRow]
           rw [if_neg h0]
           simp only [bind_assoc, pure_bind, Sem.run_bind, z1, Result.andThen_ok, f1]
           simp [newRow]
         refine .row _ H.length 0 _ ⟨c.w.heap.size, 0, sz, _⟩ 0 len (updρ_self _ _ _) (.inl (by simp)) (Nat.le_refl _) (fun _ => rfl) (.inl ?_)
         simp [f3]
       cases h
     cases h
   cases h
 cases h
def vfill (place : Nat → Option (Nat × Nat)) (cs : List AV) : List (Nat × AV) → Option (List AV)
 | [] => some cs
 | (i, v) :: rest => match place i, v.cells with
   | some (off, n), some vs => if vs.length = n ∧ off + n ≤ cs.length then vfill place (setC cs off vs) rest else none
   | _, _ => none
def AggR (c : Cx) (cs : List AV) (Vs : Array Value) : Prop := cs.length = Vs.size ∧ ∀ (j : Nat) (x : AV), cs[j]? = some x → ∃ U, Vs[j]? = some U ∧ U.oneCell' = true ∧ Rel c x U
theorem AggR.rel {c : Cx} {cs : List AV} {Vs : Array Value} (h : AggR c cs Vs) : Rel c (.agg cs) (.agg Vs) := by
 refine .agg cs Vs h.1 (fun j V hV => ?_) (fun j x V hx hV => ?_)
 · have hj := (Array.getElem?_eq_some_iff.1 hV).1
   have hj' : j < cs.length := by rw [h.1]; exact hj
   obtain ⟨U, u1, u2, _⟩ := h.2 j cs[j] (List.getElem?_eq_getElem hj')
   rw [hV] at u1
   cases u1
   exact u2
 obtain ⟨U, u1, _, u3⟩ := h.2 j x hx
 rw [hV] at u1
 cases u1
 exact u3
theorem fill_sound {c : Cx} {place place' : Nat → Option (Nat × Nat)} (hpl : ∀ i a, place i = some a → place' i = some a) {ps : List (Nat × AV)} {PS : List (Nat × Value)} (hp : PartsR c ps PS) : ∀ {cs cs' : List AV} {cells : Array Value}, vfill place cs ps = some cs' → AggR c cs cells →
 ∃ cells', Instr.fill place' cells PS = some cells' ∧ AggR c cs' cells' := by
 induction hp with
 | nil => intro cs cs' cells h hR; cases h; exact ⟨cells, rfl, hR⟩
 | @cons i x X r R hX hr ih =>
   intro cs cs' cells h hR
   unfold vfill at h
   split at h
   · rename_i off n vs hpi hvs
     split at h
     · rename_i hc
       obtain ⟨hlen, hf⟩ := hc
       obtain ⟨hXs, hXc⟩ := hX.cells hvs
       obtain ⟨cells1, e1, e2, e3⟩ := fill_cons (rest := R) (hpl i _ hpi) (show X.cells.size = n by omega) (cells := cells) (by have := hR.1; omega)
       have hput : AggR c (setC cs off vs) cells1 := by
        refine ⟨by rw [setC_length (by omega), e2, hR.1], fun j y hy => ?_⟩
        rw [setC_get (by omega)] at hy
        split at hy
        · rename_i hj
          obtain ⟨U, u1, u2, u3⟩ := hXc _ y hy
          exact ⟨U, by rw [e3, if_pos (by omega)]; exact u1, u2, u3⟩
        rename_i hj
        obtain ⟨U, u1, u2, u3⟩ := hR.2 j y hy
        exact ⟨U, by rw [e3, if_neg (by omega)]; exact u1, u2, u3⟩
       obtain ⟨cells2, f1, f2⟩ := ih h hput
       exact ⟨cells2, e1.trans f1, f2⟩
     cases h
   cases h
def sizesOf (P : Program) : List Field → Option (List (Nat × Nat))
 | [] => some []
 | f :: r => match szOf P f.type, sizesOf P r with
   | some n, some l => some ((f.offset, n) :: l)
   | _, _ => none
theorem sizes_run {P : Program} (w : World) : ∀ {fs : List Field} {l : List (Nat × Nat)}, sizesOf P fs = some l → (fs.mapM fun f => do pure (f.offset, ← sizeOf f.type) : Sem (List (Nat × Nat))).run P w = .ok l w
 | [], l, h => by cases h; rfl
 | f :: r, l, h => by
   unfold sizesOf at h
   split at h
   · rename_i n l' hn hl
     cases h
     have ih := sizes_run w hl
     simp only [List.mapM_cons, bind_assoc, Sem.run_bind, run_sz hn, Result.andThen_ok, pure_bind, ih]
     rfl
   cases h
def vbuild (P : Program) (t : TypeId) (ps : List (Nat × AV)) : Option AV :=
 match P.underlying t, zrOf P t with
 | some (.struct fields), some (.agg zc) => match sizesOf P fields.toList with
   | some l => (vfill (l[·]?) zc ps).map .agg
   | none => none
 | some (.array _ e), some (.agg zc) => match szOf P e with
   | some n => (vfill (fun i => some (i * n, n)) zc ps).map .agg
   | none => none
 | _, _ => none
theorem zr_agg {P : Program} {t : TypeId} {zc : List AV} (h : zrOf P t = some (.agg zc)) (c : Cx) (w : World) : ∃ Vs, (zeroValue t).run P w = .ok (.agg Vs) w ∧ AggR c zc Vs := by
 obtain ⟨V, h1, h2⟩ := run_zr h w
 have := h2 c
 cases V with
 | agg Vs =>
   refine ⟨Vs, h1, ?_⟩
   have hc := this.cells (cs := zc) rfl
   exact ⟨hc.1.symm, hc.2⟩
 | _ => cases this
theorem build_sound {P : Program} {c : Cx} {t : TypeId} {ps : List (Nat × AV)} {PS : Array (Nat × Value)} {v : AV} (hp : PartsR c ps PS.toList) (h : vbuild P t ps = some v) : ∃ V, (Instr.build t PS).run P c.w = .ok V c.w ∧ Rel c v V := by
 unfold vbuild at h
 split at h
 · rename_i fields zc hu hz
   obtain ⟨Vs, z1, z2⟩ := zr_agg hz c c.w
   split at h
   · rename_i l hl
     cases hf : vfill (l[·]?) zc ps with
     | none => rw [hf] at h; cases h
     | some cs =>
       rw [hf] at h
       cases h
       have hm : (fields.mapM fun f => do pure (f.offset, ← sizeOf f.type) : Sem (Array (Nat × Nat))).run P c.w = .ok l.toArray c.w := by
        rw [Array.mapM_eq_mapM_toList, Sem.run_map, sizes_run c.w hl]
        rfl
       obtain ⟨cells, f1, f2⟩ := fill_sound (place' := (l.toArray[·]?)) (fun i a h => by simpa using h) hp hf z2
       refine ⟨.agg cells, ?_, f2.rel⟩
       simp only [Instr.build, Sem.run_bind, z1, Result.andThen_ok, run_un hu, hm, Value.cells, f1]
       rfl
   cases h
 · rename_i n e zc hu hz
   obtain ⟨Vs, z1, z2⟩ := zr_agg hz c c.w
   split at h
   · rename_i m hm
     cases hf : vfill (fun i => some (i * m, m)) zc ps with
     | none => rw [hf] at h; cases h
     | some cs =>
       rw [hf] at h
       cases h
       obtain ⟨cells, f1, f2⟩ := fill_sound (place' := fun i => some (i * m, m)) (fun i a h => h) hp hf z2
       refine ⟨.agg cells, ?_, f2.rel⟩
       simp only [Instr.build, Sem.run_bind, z1, Result.andThen_ok, run_un hu, run_sz hm, Value.cells, f1]
       rfl
   cases h
 cases h
end Go.Vi
namespace Go.Vi
def FlatRows (c : Cx) (vs : List Value) (sz : Nat) (rows : List (List AV)) : Prop :=
 vs.length = rows.length * sz ∧ ∀ (i : Nat) (r : List AV), rows[i]? = some r → r.length = sz ∧ ∀ (j : Nat) (x : AV), r[j]? = some x → ∃ U, vs[i * sz + j]? = some U ∧ U.oneCell' = true ∧ Rel c x U
theorem FlatRows.one {c : Cx} {vs : List Value} {sz : Nat} {rows : List (List AV)} (h : FlatRows c vs sz rows) (h0 : sz ≠ 0) : ∀ v ∈ vs, v.oneCell' = true := fun v hv => by
 obtain ⟨q, hq, rfl⟩ := List.getElem_of_mem hv
 have hlen := h.1
 have hlt : q / sz < rows.length := by
  rw [Nat.div_lt_iff_lt_mul (by omega)]
  omega
 have hj : q % sz < sz := Nat.mod_lt _ (by omega)
 have hr : rows[q / sz]? = some rows[q / sz] := List.getElem?_eq_getElem hlt
 obtain ⟨h1, h2⟩ := h.2 _ _ hr
 obtain ⟨U, u1, u2, _⟩ := h2 (q % sz) (rows[q / sz])[q % sz] (List.getElem?_eq_getElem (by omega))
 have e : q / sz * sz + q % sz = q := by rw [Nat.mul_comm]; exact Nat.div_add_mod q sz
 rw [e, List.getElem?_eq_getElem hq] at u1
 cases u1
 exact u2
theorem FlatRows.mono {c c' : Cx} (m : Mono c c') {vs : List Value} {sz : Nat} {rows : List (List AV)} (h : FlatRows c vs sz rows) : FlatRows c' vs sz rows :=
 ⟨h.1, fun i r hr => ⟨(h.2 i r hr).1, fun j x hx => let ⟨U, u1, u2, u3⟩ := (h.2 i r hr).2 j x hx; ⟨U, u1, u2, u3.mono m⟩⟩⟩
theorem FlatRows.append {c : Cx} {vs us : List Value} {sz : Nat} {rows rows' : List (List AV)} (h : FlatRows c vs sz rows) (k : FlatRows c us sz rows') : FlatRows c (vs ++ us) sz (rows ++ rows') := by
 refine ⟨by rw [List.length_append, List.length_append, h.1, k.1, Nat.add_mul], fun i r hr => ?_⟩
 by_cases hi : i < rows.length
 · rw [List.getElem?_append_left hi] at hr
   obtain ⟨h1, h2⟩ := h.2 i r hr
   refine ⟨h1, fun j x hx => ?_⟩
   obtain ⟨U, u1, u2, u3⟩ := h2 j x hx
   exact ⟨U, by rw [List.getElem?_append_left (List.getElem?_eq_some_iff.1 u1).1]; exact u1, u2, u3⟩
 rw [List.getElem?_append_right (by omega)] at hr
 obtain ⟨h1, h2⟩ := k.2 _ r hr
 refine ⟨h1, fun j x hx => ?_⟩
 obtain ⟨U, u1, u2, u3⟩ := h2 j x hx
 refine ⟨U, ?_, u2, u3⟩
 have e : i * sz + j = rows.length * sz + ((i - rows.length) * sz + j) := by
  rw [← Nat.add_assoc, ← Nat.add_mul]
  congr 2
  omega
 rw [List.getElem?_append_right (by rw [h.1]; omega), h.1, e, Nat.add_sub_cancel_left]
 exact u1
theorem FlatRows.at_ {c : Cx} {vs rest : List Value} {sz : Nat} {rows : List (List AV)} (h : FlatRows c vs sz rows) : RowsAt c (vs ++ rest).toArray 0 sz rows := fun i r hr => by
 obtain ⟨h1, h2⟩ := h.2 i r hr
 refine ⟨h1, fun j x hx => ?_⟩
 obtain ⟨U, u1, u2, u3⟩ := h2 j x hx
 refine ⟨U, ?_, u2, u3⟩
 rw [Nat.zero_add, List.getElem?_toArray, List.getElem?_append_left (List.getElem?_eq_some_iff.1 u1).1]
 exact u1
theorem FlatRows.nil (c : Cx) (sz : Nat) : FlatRows c [] sz [] := ⟨by simp, fun i r hr => by cases hr⟩
theorem SliceAt.flat {P : Program} {c : Cx} {V : Value} {sz : Nat} {rows : List (List AV)} (h : SliceAt c V sz rows) (h0 : sz ≠ 0) :
 ∃ vs, FlatRows c vs sz rows ∧ (∀ w, (Builtin.lenOf V).run P w = .ok rows.length w) ∧ ∀ (m : Nat) (w : World), m ≤ rows.length → (∀ a, w.cell? a = c.w.cell? a) → (Builtin.firstCells sz m V).run P w = .ok (vs.take (m * sz)).toArray w := by
 rcases h with ⟨base, cap, rfl, rfl⟩ | ⟨b, o, cap, rfl, h⟩
 · exact ⟨[], FlatRows.nil c sz, fun w => rfl, fun m w hm _ => by
    obtain rfl : m = 0 := by simpa using hm
    cases base with
    | none => simp [Builtin.firstCells]
    | some a =>
      have := run_loadCells_list (P := P) w a [] (fun j v h => by cases h)
      simpa [Builtin.firstCells] using this⟩
 have hF : ∀ q, ∃ V, q < rows.length * sz → c.w.cell? ⟨b, o + q, none⟩ = some V ∧ V.oneCell' = true ∧ ∀ (i : Nat) (r : List AV) (j : Nat) (x : AV), rows[i]? = some r → r[j]? = some x → i * sz + j = q → Rel c x V := fun q => by
  by_cases hq : q < rows.length * sz
  · have hlt : q / sz < rows.length := by rw [Nat.div_lt_iff_lt_mul (by omega)]; exact hq
    have hj : q % sz < sz := Nat.mod_lt _ (by omega)
    have hr : rows[q / sz]? = some rows[q / sz] := List.getElem?_eq_getElem hlt
    obtain ⟨h1, h2⟩ := h _ _ hr
    obtain ⟨V, v1, v2, v3⟩ := h2 (q % sz) (rows[q / sz])[q % sz] (List.getElem?_eq_getElem (by omega))
    have e : q / sz * sz + q % sz = q := by rw [Nat.mul_comm]; exact Nat.div_add_mod q sz
    rw [Nat.add_assoc, e] at v1
    refine ⟨V, fun _ => ⟨v1, v2, fun i r j x hi hx he => ?_⟩⟩
    obtain ⟨g1, g2⟩ := h i r hi
    obtain ⟨V', w1, w2, w3⟩ := g2 j x hx
    rw [Nat.add_assoc, he, v1] at w1
    cases w1
    exact w3
  · exact ⟨undef, fun h => absurd h hq⟩
 refine ⟨(List.range (rows.length * sz)).map (fun q => (hF q).choose), ⟨by simp, fun i r hr => ?_⟩, fun w => rfl, fun m w hm hw => ?_⟩
 · obtain ⟨h1, h2⟩ := h i r hr
   refine ⟨h1, fun j x hx => ?_⟩
   have hj : j < sz := by rw [← h1]; exact (List.getElem?_eq_some_iff.1 hx).1
   have hi : i < rows.length := (List.getElem?_eq_some_iff.1 hr).1
   have hq : i * sz + j < rows.length * sz := by
    have := Nat.mul_le_mul_right sz (show i + 1 ≤ rows.length by omega)
    rw [Nat.add_mul, Nat.one_mul] at this
    omega
   exact ⟨(hF (i * sz + j)).choose, by rw [List.getElem?_map, List.getElem?_range hq]; rfl, ((hF _).choose_spec hq).2.1, ((hF _).choose_spec hq).2.2 i r j x hr hx rfl⟩
 have hms : m * sz ≤ rows.length * sz := Nat.mul_le_mul_right sz hm
 have := run_loadCells (P := P) w ⟨b, o, none⟩ (m * sz) (fun q => (hF q).choose) (fun j hj => by rw [add_spot, hw]; exact ((hF j).choose_spec (by omega)).1)
 simp only [Builtin.firstCells]
 rw [this, ← List.map_take, List.take_range]
 congr 4
 omega
def strRows (s : ByteArray) : List (List AV) := s.data.toList.map fun b => [.int .u8 b.toNat]
theorem str_flat {P : Program} {c : Cx} (s : ByteArray) : ∃ vs, FlatRows c vs 1 (strRows s) ∧ (∀ w, (Builtin.lenOf (.string s)).run P w = .ok (strRows s).length w) ∧
 ∀ (m : Nat) (w : World), m ≤ (strRows s).length → (Builtin.firstCells 1 m (.string s)).run P w = .ok (vs.take (m * 1)).toArray w := by
 have hlen : (strRows s).length = s.size := by unfold strRows; rw [List.length_map]; rfl
 refine ⟨s.data.toList.map (fun b => .int .u8 b.toNat), ⟨by simp [strRows], fun i r hr => ?_⟩, fun w => by rw [hlen]; rfl, fun m w hm => ?_⟩
 · simp only [strRows, List.getElem?_map] at hr
   cases hb : s.data.toList[i]? with
   | none => rw [hb] at hr; cases hr
   | some b =>
     rw [hb] at hr
     cases hr
     refine ⟨rfl, fun j x hx => ?_⟩
     cases j with
     | succ j => simp at hx
     | zero =>
       simp at hx
       subst hx
       refine ⟨.int .u8 b.toNat, ?_, rfl, .int _ _⟩
       simp only [Nat.mul_one, Nat.add_zero, List.getElem?_map, hb]
       rfl
 simp only [Builtin.firstCells, Nat.mul_one, Sem.run_pure]
 congr 1
 apply Array.ext'
 rw [Array.toList_map, List.toList_toArray, ← List.map_take]
 congr 1
 show (s.extract 0 m).data.toList = _
 rw [ByteArray.data_extract]
 simp
def frzCell (H : Hp) (x : AV) : Option (Hp × AV) :=
 match x with
 | .row _ l i n => match H[l]? with
   | some (.arr _ sz rows) => if i + n ≤ rows.length ∧ allVal rows = true then some (H.set l (.frz sz rows), .list .loose ((rows.drop i).take n)) else none
   | some (.frz _ rows) => if i + n ≤ rows.length then some (H, .list .loose ((rows.drop i).take n)) else none
   | _ => none
 | .sub .. => none
 | x => some (H, x)
theorem frz_rel {c : Cx} {H : Hp} (s : Sim c H) {t : Bool} {l i n sz : Nat} {rows : List (List AV)} {X : Value} (hl : H[l]? = some (.frz sz rows)) (hX : Rel c (.row t l i n) X) (hle : i + n ≤ rows.length) :
 Rel c (.list .loose ((rows.drop i).take n)) X := by
 obtain ⟨e0, cl, cells, T, fr, e1, e2, e3, e4, e5, e6⟩ := s.obj l _ hl
 cases hX with
 | row _ _ _ _ cl2 o cap hρ ho hn ht hlim =>
   rw [hρ] at e1
   cases e1
   subst e2
   have hlen : ((rows.drop i).take n).length = n := by simp; omega
   have hrow : ∀ (q : Nat) (r : List AV), ((rows.drop i).take n)[q]? = some r → rows[i + q]? = some r ∧ q < n := fun q r hr => by
    have hq : q < n := by have := (List.getElem?_eq_some_iff.1 hr).1; omega
    rw [List.getElem?_take, if_pos hq, List.getElem?_drop] at hr
    exact ⟨hr, hq⟩
   have hF : ∀ q j, ∃ V, q < n → j < cl.sz → c.w.cell? ⟨cl.blk, o + q * cl.sz + j, none⟩ = some V ∧ V.oneCell' = true ∧ ∀ (r : List AV) (x : AV), rows[i + q]? = some r → r[j]? = some x → Rel c x V := fun q j => by
    by_cases h : q < n ∧ j < cl.sz
    · have hr : rows[i + q]? = some rows[i + q] := List.getElem?_eq_getElem (by omega)
      obtain ⟨g1, g2⟩ := e6 _ _ hr
      obtain ⟨V, v1, v2, v3⟩ := g2 j (rows[i + q])[j] (List.getElem?_eq_getElem (by omega))
      refine ⟨V, fun _ _ => ⟨?_, v2, fun r x hr' hx => ?_⟩⟩
      · rw [cell_at e3, ← v1, ho.resolve_right (by omega), Nat.add_mul]
        congr 1
        omega
      rw [hr] at hr'
      cases hr'
      rw [List.getElem?_eq_getElem (by omega)] at hx
      cases hx
      exact v3
    exact ⟨undef, fun a b => absurd ⟨a, b⟩ h⟩
   have := Rel.list (c := c) .loose ((rows.drop i).take n) cl.blk o cl.sz cap none (.inr rfl) (fun q j => (hF q j).choose) (.inr e5) (by omega) (fun h => by cases h)
    (fun r hr => by obtain ⟨q, hq⟩ := List.mem_iff_getElem?.1 hr; exact (e6 _ _ (hrow q r hq).1).1)
    (List.all_eq_true.2 (fun r hr => List.all_eq_true.1 e0 r (List.mem_of_mem_drop (List.mem_of_mem_take hr))))
    (fun q j hq hj => by rw [hlen] at hq; have := (hF q j).choose_spec hq hj; exact ⟨this.1, this.2.1⟩)
    (fun q r j x hr hx => by
     obtain ⟨h1, h2⟩ := hrow q r hr
     have hj : j < cl.sz := by rw [← (e6 _ _ h1).1]; exact (List.getElem?_eq_some_iff.1 hx).1
     exact ((hF q j).choose_spec h2 hj).2.2 r x h1 hx)
   rwa [hlen] at this
structure Still (c : Cx) (H : Hp) (c' : Cx) (H' : Hp) : Prop where
 to_ : To c H c' H'
 w : c'.w = c.w
theorem Still.refl {c : Cx} {H : Hp} (s : Sim c H) : Still c H c H := ⟨To.refl s, rfl⟩
theorem Still.trans {a b c : Cx} {H1 H2 H3 : Hp} (s : Sim a H1) (h : Still a H1 b H2) (k : Still b H2 c H3) : Still a H1 c H3 := ⟨h.to_.trans s k.to_, k.w.trans h.w⟩
theorem frzCell_sound {c : Cx} {H H' : Hp} (s : Sim c H) {x y : AV} {X : Value} (hX : Rel c x X) (h : frzCell H x = some (H', y)) : ∃ c', Still c H c' H' ∧ Rel c' y X := by
 unfold frzCell at h
 split at h
 · rename_i t l i n
   split at h
   · rename_i sz rows hl
     split at h
     · rename_i hc
       cases h
       obtain ⟨cl, hρ, ht⟩ := To.freeze s hl hc.2
       refine ⟨_, ⟨ht, rfl⟩, ?_⟩
       have hlen : l < H.length := (List.getElem?_eq_some_iff.1 hl).1
       exact frz_rel ht.sim (List.getElem?_set_self hlen) (hX.mono ht.ext.mono) hc.1
     cases h
   · rename_i sz rows hl
     split at h
     · rename_i hc
       cases h
       exact ⟨c, Still.refl s, frz_rel s hl hX hc⟩
     cases h
   cases h
 · cases h
 cases h
 exact ⟨c, Still.refl s, hX⟩
def frzCells (H : Hp) : List AV → Option (Hp × List AV)
 | [] => some (H, [])
 | x :: r => match frzCell H x with
   | some (H1, y) => match frzCells H1 r with
     | some (H2, ys) => some (H2, y :: ys)
     | none => none
   | none => none
def frzRows (H : Hp) : List (List AV) → Option (Hp × List (List AV))
 | [] => some (H, [])
 | x :: r => match frzCells H x with
   | some (H1, y) => match frzRows H1 r with
     | some (H2, ys) => some (H2, y :: ys)
     | none => none
   | none => none
theorem frzCells_len : ∀ {xs ys : List AV} {H H' : Hp}, frzCells H xs = some (H', ys) → ys.length = xs.length
 | [], ys, H, H', h => by cases h; rfl
 | x :: r, ys, H, H', h => by
   unfold frzCells at h
   split at h
   · split at h
     · rename_i h2
       cases h
       simp [frzCells_len h2]
     cases h
   cases h
theorem frzCells_sound : ∀ {xs ys : List AV} {c : Cx} {H H' : Hp}, Sim c H → frzCells H xs = some (H', ys) →
 ∀ F : Nat → Value, (∀ (j : Nat) (x : AV), xs[j]? = some x → Rel c x (F j)) → ∃ c', Still c H c' H' ∧ ∀ (j : Nat) (y : AV), ys[j]? = some y → Rel c' y (F j)
 | [], ys, c, H, H', s, h => by cases h; exact fun F _ => ⟨c, Still.refl s, fun j y hy => by cases hy⟩
 | x :: r, ys, c, H, H', s, h => by
   unfold frzCells at h
   split at h
   · rename_i H1 y h1
     split at h
     · rename_i H2 ys' h2
       cases h
       intro F hF
       obtain ⟨c1, s1, r1⟩ := frzCell_sound s (hF 0 x (by simp)) h1
       obtain ⟨c2, s2, r2⟩ := frzCells_sound s1.to_.sim h2 (fun j => F (j + 1)) (fun j z hz => (hF (j + 1) z (by simpa using hz)).mono s1.to_.ext.mono)
       refine ⟨c2, s1.trans s s2, fun j z hz => ?_⟩
       cases j with
       | zero => simp at hz; subst hz; exact r1.mono s2.to_.ext.mono
       | succ j => exact r2 j z (by simpa using hz)
     cases h
   cases h
theorem frzRows_len : ∀ {xs ys : List (List AV)} {H H' : Hp}, frzRows H xs = some (H', ys) → ys.map List.length = xs.map List.length
 | [], ys, H, H', h => by cases h; rfl
 | x :: r, ys, H, H', h => by
   unfold frzRows at h
   split at h
   · rename_i h1
     split at h
     · rename_i h2
       cases h
       simp [frzCells_len h1, frzRows_len h2]
     cases h
   cases h
theorem frzRows_sound : ∀ {xs ys : List (List AV)} {c : Cx} {H H' : Hp}, Sim c H → frzRows H xs = some (H', ys) →
 ∀ F : Nat → Nat → Value, (∀ (i : Nat) (r : List AV), xs[i]? = some r → ∀ (j : Nat) (x : AV), r[j]? = some x → Rel c x (F i j)) →
   ∃ c', Still c H c' H' ∧ ∀ (i : Nat) (r : List AV), ys[i]? = some r → ∀ (j : Nat) (y : AV), r[j]? = some y → Rel c' y (F i j)
 | [], ys, c, H, H', s, h => by cases h; exact fun F _ => ⟨c, Still.refl s, fun i r hr => by cases hr⟩
 | x :: r, ys, c, H, H', s, h => by
   unfold frzRows at h
   split at h
   · rename_i H1 y h1
     split at h
     · rename_i H2 ys' h2
       cases h
       intro F hF
       obtain ⟨c1, s1, r1⟩ := frzCells_sound s h1 (F 0) (fun j z hz => hF 0 x (by simp) j z hz)
       obtain ⟨c2, s2, r2⟩ := frzRows_sound s1.to_.sim h2 (fun i => F (i + 1)) (fun i r' hr' j z hz => (hF (i + 1) r' (by simpa using hr') j z hz).mono s1.to_.ext.mono)
       refine ⟨c2, s1.trans s s2, fun i r' hr' j z hz => ?_⟩
       cases i with
       | zero => simp at hr'; subst hr'; exact (r1 j z hz).mono s2.to_.ext.mono
       | succ i => exact r2 i r' (by simpa using hr') j z hz
     cases h
   cases h
theorem frzFlat {c : Cx} {H H' : Hp} (s : Sim c H) {vs : List Value} {sz : Nat} {rows ys : List (List AV)} (hf : FlatRows c vs sz rows) (h : frzRows H rows = some (H', ys)) :
 ∃ c', Still c H c' H' ∧ FlatRows c' vs sz ys := by
 obtain ⟨c', s1, r1⟩ := frzRows_sound s h (fun i j => vs.getD (i * sz + j) undef) (fun i r hr j x hx => by
  obtain ⟨U, u1, u2, u3⟩ := (hf.2 i r hr).2 j x hx
  rw [List.getD_eq_getElem?_getD, u1]
  exact u3)
 have hl := frzRows_len h
 have hlen : ys.length = rows.length := by have := congrArg List.length hl; simpa using this
 refine ⟨c', s1, by rw [hlen, hf.1], fun i r hr => ?_⟩
 have hi : i < rows.length := by rw [← hlen]; exact (List.getElem?_eq_some_iff.1 hr).1
 have hr0 : rows[i]? = some rows[i] := List.getElem?_eq_getElem hi
 have hrl : r.length = sz := by
  have := congrArg (·[i]?) hl
  simp only [List.getElem?_map, hr, hr0, Option.map_some, Option.some.injEq] at this
  rw [this]
  exact (hf.2 i _ hr0).1
 refine ⟨hrl, fun j x hx => ?_⟩
 have hj : j < sz := by rw [← hrl]; exact (List.getElem?_eq_some_iff.1 hx).1
 have h0 := (hf.2 i _ hr0)
 obtain ⟨U, u1, u2, _⟩ := h0.2 j (rows[i])[j] (List.getElem?_eq_getElem (by omega))
 have := r1 i r hr j x hx
 rw [List.getD_eq_getElem?_getD, u1] at this
 exact ⟨U, u1, u2, this⟩
end Go.Vi
namespace Go.Vi
def srcRows (H : Hp) : AV → Option (List (List AV))
 | .str s => some (strRows s)
 | x => rowsOf H x
theorem src_flat {P : Program} {c : Cx} {H : Hp} (s : Sim c H) {x : AV} {X : Value} (hX : Rel c x X) {rows : List (List AV)} (h : srcRows H x = some rows) {sz : Nat} (hsz : lenOk sz rows = true) (h0 : sz ≠ 0) (h1 : ∀ b, x = .str b → sz = 1) :
 ∃ vs, FlatRows c vs sz rows ∧ (∀ w, (Builtin.lenOf X).run P w = .ok rows.length w) ∧ ∀ (m : Nat) (w : World), m ≤ rows.length → (∀ a, w.cell? a = c.w.cell? a) → (Builtin.firstCells sz m X).run P w = .ok (vs.take (m * sz)).toArray w := by
 by_cases hs : ∃ b, x = .str b
 · obtain ⟨b, rfl⟩ := hs
   cases h1 b rfl
   cases h
   cases hX
   obtain ⟨vs, f1, f2, f3⟩ := str_flat (P := P) (c := c) b
   exact ⟨vs, f1, f2, fun m w hm _ => f3 m w hm⟩
 have h' : rowsOf H x = some rows := by
  cases x <;> first | exact h | exact absurd ⟨_, rfl⟩ hs
 exact (rows_sound s hX h' hsz).flat h0
theorem append_grow {P : Program} {c : Cx} {H : Hp} (s : Sim c H) {t t2 ty e : TypeId} {d2 : TypeDesc} {sz by_ : Nat} {zc : List AV} (hu : P.underlying t = some (.slice e)) (hu2 : P.underlying t2 = some d2) (hd2 : ∀ k, d2 ≠ .int k)
 (hsz : szOf P e = some sz) (hby : byOf P e = some by_) (hzc : zcOf P e = some zc) (hz : zc.length = sz) (h0 : sz ≠ 0) {base : Option Addr} {X : Value} {n cap : Nat} {rows news : List (List AV)} {vs us : List Value}
 (hvs : FlatRows c vs sz rows) (hus : FlatRows c us sz news) (hold : ∀ w : World, (∀ a, w.cell? a = c.w.cell? a) → (Builtin.firstCells sz rows.length (.slice base rows.length cap)).run P w = .ok vs.toArray w)
 (hlen : ∀ w, (Builtin.lenOf X).run P w = .ok news.length w) (hnew : ∀ w : World, (∀ a, w.cell? a = c.w.cell? a) → (Builtin.firstCells sz news.length X).run P w = .ok us.toArray w)
 (hcap : cap < rows.length + news.length) (hb : (rows.length + news.length) * by_ ≤ 140737488355328) (hb0 : by_ ≠ 0) :
 ∃ V c', (Builtin.append_ #[t, t2] ty #[.slice base rows.length cap, X]).run P c.w = .ok V c'.w ∧ To c H c' (H ++ [.arr e sz (rows ++ news)]) ∧ Rel c' (.row false H.length 0 (rows.length + news.length)) V := by
 obtain ⟨ti, t1, t3⟩ := run_by hby
 obtain ⟨Z, z1, z2, z3⟩ := run_zc hzc c.w.drew
 have hd : ∀ a, c.w.drew.cell? a = c.w.cell? a := fun a => rfl
 obtain ⟨need, hn⟩ : ∃ m, m = rows.length + news.length := ⟨_, rfl⟩
 rw [← hn] at hcap hb ⊢
 obtain ⟨nc, hncd⟩ : ∃ m, m = (Question.appendCap need cap e).cut (c.w.tape c.w.drawn (.appendCap need cap e)) := ⟨_, rfl⟩
 have hnc : need ≤ nc := by simp only [hncd, Question.cut]; omega
 have hfits := growslice_fits (old := cap) (need := need) hcap hb
 have hneed : need ≤ 140737488355328 := by
  have h1 : need * 1 ≤ need * by_ := Nat.mul_le_mul_left need (by omega)
  omega
 have hflat := hvs.append hus
 let rest := Builtin.zeroCells Z.cells (nc - need)
 have cells_eq : (vs.toArray ++ us.toArray ++ rest) = ((vs ++ us) ++ rest.toList).toArray := by
  apply Array.ext'
  simp
 have T0 : To c H { c with w := c.w.drew } H := To.world s rfl rfl rfl rfl
 have T1 := new_rows T0.sim (cells := ((vs ++ us) ++ rest.toList).toArray) e (((hflat.mono T0.ext.mono).at_ (rest := rest.toList)))
 have hsize : ((vs ++ us) ++ rest.toList).toArray.size = nc * sz := by
  simp only [List.size_toArray, List.length_append, Array.length_toList, hvs.1, hus.1, rest, size_zeroCells, z2, hz, ← Nat.add_mul, ← hn]
  congr 1
  omega
 refine ⟨.slice (some ⟨c.w.heap.size, 0, none⟩) need nc, _, ?_, T0.trans s T1, ?_⟩
 · have hnz : ∀ (k : IntKind), d2 ≠ .int k := hd2
   have hzeros : (match d2 with | .int _ => true | _ => false) = false := by
    cases d2 <;> first | rfl | exact absurd rfl (hd2 _)
   have big : ¬ ((need : Int) > IntKind.i64.max) := by
    have : IntKind.i64.max = 9223372036854775807 := by decide
    omega
   have nsc : ¬ (Builtin.nextslicecap need cap * by_ > 2 ^ 48) := by
    have : (2 : Nat) ^ 48 = 281474976710656 := by decide
    omega
   have hnf : ¬ (need ≤ cap) := by omega
   have frc : (Question.appendCap need cap e).forced = false := rfl
   have dr : ({ c.w with drawn := c.w.drawn + 1 } : World) = c.w.drew := rfl
   simp only [Builtin.append_, Sem.run_bind, List.getElem?_toArray, List.getElem?_cons_zero, List.getElem?_cons_succ, run_un hu, run_un hu2, Result.andThen_ok, run_sz hsz, Sem.run_pure, hzeros, Bool.false_eq_true, if_false, hlen]
   rw [← hn, if_neg hnf]
   simp only [Sem.run_bind, t1, t3, Result.andThen_ok]
   rw [if_neg (fun h => big h.1)]
   simp only [Sem.run_bind, t1, t3, Result.andThen_ok]
   rw [if_neg nsc]
   simp only [Sem.run_bind, run_choose, frc, Bool.false_eq_true, if_false, Result.andThen_ok, t1, run_askRoom, ← hncd, dr, hold _ hd, Bool.not_false, if_true, hnew _ hd, z1, cells_eq, rest]
   simp [newRow, World.alloc_eq]
 refine .row _ H.length 0 _ ⟨c.w.heap.size, 0, sz, _⟩ 0 nc (updρ_self _ _ _) (.inl (by simp)) hnc (fun h => by cases h) (.inl ?_)
 rw [hsize]
 simp
theorem To.move {c : Cx} {H : Hp} (s : Sim c H) {l sz : Nat} {rows0 rows' : List (List AV)} {cl : CL} {T0 : TypeId} (hl : H[l]? = some (.arr T0 sz rows0)) (hr : c.ρ l = some cl) (o : Nat) {w' : World} {cells' : Array Value} {T : TypeId}
 (hsz : w'.heap.size = c.w.heap.size) (hb : w'.heap[cl.blk]? = some (.cells cells' T (0, 0))) (hlim : cells'.size = cl.lim) (hh : ∀ b, b ≠ cl.blk → w'.heap[b]? = c.w.heap[b]?) (h1 : w'.os = c.w.os) (h2 : w'.tape = c.w.tape) (h3 : w'.output = c.w.output)
 (ho : ∀ c' : Cx, Mono c c' → RowsAt c' cells' o sz rows') :
 To c H { c with w := w', ρ := updρ c.ρ H.length ⟨cl.blk, o, sz, cl.lim⟩ } (H.set l .dead ++ [.arr T sz rows']) := by
 obtain ⟨cl0, cells, e1, e2, e3, e4, e5, e6, e7⟩ := s.obj l _ hl
 rw [hr] at e1
 cases e1
 have hlen : l < H.length := (List.getElem?_eq_some_iff.1 hl).1
 have hlv : live H l := ⟨_, hl, rfl⟩
 have hlt : cl.blk < c.w.heap.size := (Array.getElem?_eq_some_iff.1 e3).1
 have hold : ∀ k, k < H.length → k ≠ l → (H.set l .dead ++ [.arr T sz rows'])[k]? = H[k]? := fun k hk hne => by
  rw [List.getElem?_append_left (by simpa using hk), List.getElem?_set_ne (Ne.symm hne)]
 have hdead : (H.set l .dead ++ [.arr T sz rows'])[l]? = some .dead := by
  rw [List.getElem?_append_left (by simpa using hlen), List.getElem?_set_self hlen]
 have hnew : (H.set l .dead ++ [.arr T sz rows'])[H.length]? = some (.arr T sz rows') := by
  rw [List.getElem?_append_right (by simp)]
  simp
 have m : Mono c { c with w := w', ρ := updρ c.ρ H.length ⟨cl.blk, o, sz, cl.lim⟩ } := by
  refine ⟨fun _ h => h, fun _ h => h, fun k cl' h => ?_, fun b h => hh b (fun e => by subst e; exact h.elim e5 e6)⟩
  have : k ≠ H.length := fun e => by rw [e, s.fresh _ (Nat.le_refl _)] at h; cases h
  simp [updρ, this, h]
 have lv : ∀ k, live (H.set l .dead ++ [.arr T sz rows']) k → (k = H.length ∧ True) ∨ (k < H.length ∧ k ≠ l ∧ live H k) := fun k ⟨o2, h, hv2⟩ => by
  by_cases hk : k < H.length
  · by_cases e : k = l
    · subst e
      rw [hdead] at h
      cases h
      cases hv2
    rw [hold k hk e] at h
    exact .inr ⟨hk, e, o2, h, hv2⟩
  have := (List.getElem?_eq_some_iff.1 h).1
  simp at this
  exact .inl ⟨by omega, trivial⟩
 have oldρ : ∀ k, k < H.length → updρ c.ρ H.length ⟨cl.blk, o, sz, cl.lim⟩ k = c.ρ k := fun k hk => by simp [updρ]; omega
 refine ⟨⟨m, by simp [hsz], fun b hb hn => hh b (fun e => hn ⟨l, cl, hlv, hr, e.symm⟩), fun _ h => .inl h, fun _ => Iff.rfl, fun k cl' h => ?_, h1, h2, h3⟩,
  ⟨fun b hb => by simp only [hsz]; exact s.bound b hb, fun b hb => by simp only [hsz]; exact s.boundB b hb, fun k o2 h => ?_, fun a b c1 c2 ha hb2 hca hcb hab => ?_, fun k hk => ?_⟩, by simp, fun k hk h => ?_⟩
 · by_cases e : k = H.length
   · subst e
     simp [updρ] at h
     subst h
     exact .inr (.inr ⟨l, cl, hlv, hr, rfl⟩)
   simp [updρ, e] at h
   exact .inl h
 · by_cases hk : k < H.length
   · by_cases e : k = l
     · subst e
       rw [hdead] at h
       cases h
       trivial
     rw [hold k hk e] at h
     refine (s.obj k o2 h).keep m (fun _ _ _ h => h) (fun _ h => h) (fun cl2 hr2 hv2 => hh _ (fun e2 => e (s.inj k l cl2 cl (live_of h hv2) hlv hr2 hr e2)))
   have := (List.getElem?_eq_some_iff.1 h).1
   simp at this
   have e : k = H.length := by omega
   subst e
   rw [hnew] at h
   cases h
   exact ⟨⟨cl.blk, o, sz, cl.lim⟩, cells', updρ_self _ _ _, rfl, hb, hlim, e5, e6, ho _ m⟩
 · have key : ∀ k cl', live (H.set l .dead ++ [.arr T sz rows']) k → updρ c.ρ H.length ⟨cl.blk, o, sz, cl.lim⟩ k = some cl' → cl'.blk = cl.blk → k = H.length := fun k cl' hk hρ' hblk => by
    rcases lv k hk with ⟨h, _⟩ | ⟨h4, h5, h6⟩
    · exact h
    · rw [oldρ k h4] at hρ'
      exact absurd (s.inj k l cl' cl h6 hlv hρ' hr hblk) h5
   rcases lv a ha with ⟨rfl, _⟩ | ⟨h4, h5, h6⟩
   · simp [updρ] at hca
     subst hca
     exact (key b c2 hb2 hcb hab.symm).symm
   rcases lv b hb2 with ⟨rfl, _⟩ | ⟨k4, k5, k6⟩
   · simp [updρ] at hcb
     subst hcb
     exact key a c1 ha hca hab
   replace hca := (oldρ a h4).symm.trans hca
   replace hcb := (oldρ b k4).symm.trans hcb
   exact s.inj a b c1 c2 h6 k6 hca hcb hab
 · simp at hk
   have e : k ≠ H.length := by omega
   simp [updρ, e]
   exact s.fresh k (by omega)
 rcases lv k h with ⟨h, _⟩ | ⟨_, _, h6⟩
 · omega
 exact h6
theorem To.kill {c c' : Cx} {H H' : Hp} (t : To c H c' H') (l : Nat) : To c H c' (H'.set l .dead) := by
 have lv : ∀ k, live (H'.set l .dead) k → live H' k := fun k ⟨o2, h, hv⟩ => by
  by_cases e : l = k
  · subst e
    have hl : l < H'.length := by have := (List.getElem?_eq_some_iff.1 h).1; simpa using this
    rw [List.getElem?_set_self hl] at h
    cases h
    cases hv
  rw [List.getElem?_set_ne e] at h
  exact ⟨o2, h, hv⟩
 refine ⟨t.ext, ⟨t.sim.bound, t.sim.boundB, fun k o h => ?_, fun a b c1 c2 ha hb => t.sim.inj a b c1 c2 (lv a ha) (lv b hb), fun k hk => t.sim.fresh k (by simpa using hk)⟩, by simpa using t.len, fun k hk h => t.liv k hk (lv k h)⟩
 by_cases e : l = k
 · subst e
   have hl : l < H'.length := by have := (List.getElem?_eq_some_iff.1 h).1; simpa using this
   rw [List.getElem?_set_self hl] at h
   cases h
   trivial
 rw [List.getElem?_set_ne e] at h
 exact t.sim.obj k o h
theorem append_room {P : Program} {c : Cx} {H : Hp} (s : Sim c H) {t t2 ty e : TypeId} {d2 : TypeDesc} {sz : Nat} (hu : P.underlying t = some (.slice e)) (hu2 : P.underlying t2 = some d2) (hd2 : ∀ k, d2 ≠ .int k)
 (hsz : szOf P e = some sz) (h0 : sz ≠ 0) {X : Value} {l i n : Nat} {rows0 news : List (List AV)} {us : List Value} {cl : CL} {o cap : Nat} (hl : H[l]? = some (.arr e sz rows0)) (hr : c.ρ l = some cl)
 (ho : o = cl.base + i * cl.sz) (hi : i + n ≤ rows0.length) (hlim : o + cap * cl.sz ≤ cl.lim)
 (hus : FlatRows c us sz news) (hlen : ∀ w, (Builtin.lenOf X).run P w = .ok news.length w) (hnew : ∀ w : World, (∀ a, w.cell? a = c.w.cell? a) → (Builtin.firstCells sz news.length X).run P w = .ok us.toArray w)
 (hcap : n + news.length ≤ cap) :
 ∃ V c', (Builtin.append_ #[t, t2] ty #[.slice (some ⟨cl.blk, o, none⟩) n cap, X]).run P c.w = .ok V c'.w ∧ To c H c' (H.set l .dead ++ [.arr e sz ((rows0.drop i).take n ++ news)]) ∧ Rel c' (.row false H.length 0 (n + news.length)) V := by
 obtain ⟨cl0, cells, e1, e2, e3, e4, e5, e6, e7⟩ := s.obj l _ hl
 rw [hr] at e1
 cases e1
 subst e2
 have hmul : (n + news.length) * cl.sz ≤ cap * cl.sz := Nat.mul_le_mul_right _ hcap
 rw [Nat.add_mul] at hmul
 obtain ⟨w', cells', hrun, f1, f2, f3, f4, f5, f6, f7, f8⟩ := run_put (P := P) (o := o + n * cl.sz) e3 (vs := us) (by rw [hus.1]; omega) (hus.one h0)
 refine ⟨.slice (some ⟨cl.blk, o, none⟩) (n + news.length) cap, _, ?_, To.move s (rows' := (rows0.drop i).take n ++ news) hl hr o f4 f1 (f2.trans e4) f5 f6 f7 f8 (fun c' m q r hq => ?_), ?_⟩
 · have hzeros : (match d2 with | .int _ => true | _ => false) = false := by
    cases d2 <;> first | rfl | exact absurd rfl (hd2 _)
   simp only [Builtin.append_, Sem.run_bind, List.getElem?_toArray, List.getElem?_cons_zero, List.getElem?_cons_succ, run_un hu, run_un hu2, Result.andThen_ok, run_sz hsz, Sem.run_pure, hzeros, Bool.false_eq_true, if_false, hlen]
   rw [if_pos hcap]
   simp only [Sem.run_bind, Bool.not_false, if_true, hnew c.w (fun _ => rfl), Result.andThen_ok, add_spot, hrun, Sem.run_pure]
 · have hn : ((rows0.drop i).take n).length = n := by simp; omega
   by_cases hqn : q < n
   · rw [List.getElem?_append_left (by omega), List.getElem?_take, if_pos hqn, List.getElem?_drop] at hq
     obtain ⟨g1, g2⟩ := e7 _ r hq
     refine ⟨g1, fun j x hx => ?_⟩
     have hj : j < cl.sz := by rw [← g1]; exact (List.getElem?_eq_some_iff.1 hx).1
     obtain ⟨V, v1, v2, v3⟩ := g2 j x hx
     refine ⟨V, ?_, v2, v3.mono m⟩
     have hlt := mul_lt_row hqn hj
     rw [f3, if_neg (by omega), ← v1, ho, Nat.add_mul]
     congr 1
     omega
   rw [List.getElem?_append_right (by omega), hn] at hq
   obtain ⟨g1, g2⟩ := hus.2 _ r hq
   refine ⟨g1, fun j x hx => ?_⟩
   obtain ⟨V, v1, v2, v3⟩ := g2 j x hx
   refine ⟨V, ?_, v2, v3.mono m⟩
   have e : q * cl.sz = n * cl.sz + (q - n) * cl.sz := by rw [← Nat.add_mul]; congr 1; omega
   have hv := (List.getElem?_eq_some_iff.1 v1).1
   rw [f3, if_pos (by omega), ← v1]
   congr 1
   omega
 have hmul' : (n + news.length) * cl.sz ≤ cap * cl.sz := Nat.mul_le_mul_right _ hcap
 exact .row _ H.length 0 _ ⟨cl.blk, o, cl.sz, cl.lim⟩ o cap (updρ_self _ _ _) (.inl (by simp)) hcap (fun h => by cases h) (.inl hlim)
def isInt : TypeDesc → Bool
 | .int _ => true
 | _ => false
def AV.isSlice : AV → Bool
 | .nils | .list .. | .row .. | .sub .. => true
 | _ => false
def AV.isStr : AV → Bool
 | .str _ => true
 | _ => false
def vappendF (P : Program) (fz : List (List AV) → Option (Hp × List (List AV))) (H : Hp) (t t2 : TypeId) (s x : AV) : Option (AV × Hp) :=
 match elemAt P t, P.underlying t2 with
 | some (none, e, sz), some d2 => if isInt d2 = true then none else match zcOf P e, byOf P e, srcRows H x with
   | some zc, some by_, some rows => if zc.length = sz ∧ sz ≠ 0 ∧ by_ ≠ 0 ∧ lenOk sz rows = true ∧ (x.isStr = true → sz = 1) ∧ s.isSlice = true then
    if rows.length = 0 then some (s, H) else match fz rows with
    | some (H1, news) => match s with
      | .nils => if news.length * by_ ≤ 140737488355328 then some (.row false H1.length 0 news.length, H1 ++ [.arr e sz news]) else none
      | .list .tight old => if lenOk sz old = true ∧ (old.length + news.length) * by_ ≤ 140737488355328 then some (.row false H1.length 0 (old.length + news.length), H1 ++ [.arr e sz (old ++ news)]) else none
      | .row true l i n => match rowsOf H1 (.row true l i n) with
        | some old => if lenOk sz old = true ∧ (old.length + news.length) * by_ ≤ 140737488355328 then some (.row false H1.length 0 (old.length + news.length), H1 ++ [.arr e sz (old ++ news)]) else none
        | none => none
      | .row false l i n => match H1[l]? with
        | some (.arr T' sz' rows0) => if (T' = e ∧ sz' = sz) ∧ i + n ≤ rows0.length ∧ (n + news.length) * by_ ≤ 140737488355328 then
         some (.row false H1.length 0 (n + news.length), H1.set l .dead ++ [.arr e sz ((rows0.drop i).take n ++ news)]) else none
        | _ => none
      | _ => none
    | none => none
     else none
   | _, _, _ => none
 | _, _ => none
def vappend (P : Program) (H : Hp) (t t2 : TypeId) (s x : AV) : Option (AV × Hp) := vappendF P (frzRows H) H t t2 s x
def vappendR (P : Program) (H : Hp) (t t2 : TypeId) (s x : AV) : Option (AV × Hp) := vappendF P (fun rows => some (H, rows)) H t t2 s x
theorem SliceAt.lenOf {P : Program} {c : Cx} {V : Value} {sz : Nat} {rows : List (List AV)} (h : SliceAt c V sz rows) : ∃ base cap, V = .slice base rows.length cap := by
 rcases h with ⟨base, cap, rfl, rfl⟩ | ⟨b, o, cap, rfl, _⟩
 · exact ⟨_, _, rfl⟩
 exact ⟨_, _, rfl⟩
theorem appendF_sound {P : Program} {c : Cx} {H H' : Hp} (s : Sim c H) {fz : List (List AV) → Option (Hp × List (List AV))} (hfz : ∀ {vs : List Value} {sz : Nat} {rows news : List (List AV)} {H1 : Hp}, FlatRows c vs sz rows → fz rows = some (H1, news) → (∃ c', Still c H c' H1 ∧ FlatRows c' vs sz news) ∧ news.length = rows.length)
 {t t2 ty : TypeId} {x y v : AV} {X Y : Value} (hX : Rel c x X) (hY : Rel c y Y) (h : vappendF P fz H t t2 x y = some (v, H')) :
 Yields P c H (Builtin.append_ #[t, t2] ty #[X, Y]) v H' := by
 unfold vappendF at h
 split at h
 · rename_i e sz d2 he hu2
   obtain ⟨hsz, hu⟩ := elemAt_of he
   have hu := (hu.resolve_right (fun h => by obtain ⟨_, h, _⟩ := h; cases h)).2
   split at h
   · cases h
   rename_i hd2
   have hd2' : ∀ k, d2 ≠ .int k := fun k e => by subst e; exact hd2 rfl
   split at h
   · rename_i zc by_ rows hzc hby hsrc
     split at h
     · rename_i hc
       obtain ⟨c1, c2, c3, c4, c5, c6⟩ := hc
       obtain ⟨vs, g1, g2, g3⟩ := src_flat (P := P) s hY hsrc c4 c2 (fun b e => c5 (by rw [e]; rfl))
       split at h
       · rename_i hnil
         cases h
         have hzeros : (match d2 with | .int _ => true | _ => false) = false := by
          cases d2 <;> first | rfl | exact absurd rfl (hd2' _)
         have g3' := g3 0 c.w (by omega) (fun _ => rfl)
         simp only [Nat.zero_mul, List.take_zero] at g3'
         have fin : ∀ base n cap, X = .slice base n cap → n ≤ cap → Yields P c H (Builtin.append_ #[t, t2] ty #[X, Y]) x H := by
          intro base n cap e hle
          subst e
          refine Yields.same s (V := .slice base n cap) ?_ hX
          simp only [Builtin.append_, Sem.run_bind, List.getElem?_toArray, List.getElem?_cons_zero, List.getElem?_cons_succ, run_un hu, run_un hu2, Result.andThen_ok, run_sz hsz, Sem.run_pure, hzeros, Bool.false_eq_true, if_false, g2, hnil, Nat.add_zero]
          rw [if_pos hle]
          simp only [Sem.run_bind, Bool.not_false, if_true, g3', Result.andThen_ok]
          cases base <;> simp [storeCells]
         cases hX with
         | nils => exact fin _ _ _ rfl (Nat.le_refl _)
         | list _ _ _ _ _ cap _ _ _ _ hcap _ _ _ _ _ => exact fin _ _ _ rfl hcap
         | row _ _ _ _ _ _ cap _ _ hn _ _ => exact fin _ _ _ rfl hn
         | sub _ _ _ _ _ _ _ cap _ _ hn => exact fin _ _ _ rfl hn
         | _ => cases c6
       rename_i hne
       split at h
       · rename_i H1 news hf
         obtain ⟨⟨c', st, hus⟩, hnl⟩ := hfz g1 hf
         have hw := st.w
         have hX' := hX.mono st.to_.ext.mono
         have s' := st.to_.sim
         have glen : ∀ w, (Builtin.lenOf Y).run P w = .ok news.length w := fun w => by rw [hnl]; exact g2 w
         have gnew : ∀ w : World, (∀ a, w.cell? a = c'.w.cell? a) → (Builtin.firstCells sz news.length Y).run P w = .ok vs.toArray w := fun w hwc => by
          rw [hnl, g3 rows.length w (Nat.le_refl _) (fun a => by rw [hwc, hw]), ← g1.1, List.take_length]
         have out : ∀ {v' : AV} {Hx : Hp}, Yields P c' H1 (Builtin.append_ #[t, t2] ty #[X, Y]) v' Hx → Yields P c H (Builtin.append_ #[t, t2] ty #[X, Y]) v' Hx := by
          rintro v' Hx ⟨V, c2, k1, k2, k3⟩
          exact ⟨V, c2, by rw [← hw]; exact k1, st.to_.trans s k2, k3⟩
         have grow : ∀ {old : List (List AV)}, SliceAt c' X sz old → (∀ base cap, X = .slice base old.length cap → cap = old.length) → (old.length + news.length) * by_ ≤ 140737488355328 →
          Yields P c' H1 (Builtin.append_ #[t, t2] ty #[X, Y]) (.row false H1.length 0 (old.length + news.length)) (H1 ++ [.arr e sz (old ++ news)]) := by
          intro old hs hcap hbytes
          obtain ⟨base, cap, rfl⟩ := SliceAt.lenOf (P := P) hs
          obtain ⟨os, o1, o2, o3⟩ := hs.flat (P := P) c2
          have hc := hcap base cap rfl
          exact append_grow s' hu hu2 hd2' hsz hby hzc c1 c2 (n := 0) o1 hus (fun w hwc => by rw [o3 _ w (Nat.le_refl _) hwc, ← o1.1, List.take_length]) glen gnew (by omega) hbytes c3
         split at h
         · split at h
           · rename_i hb
             cases h
             cases hX'
             have := grow (old := []) (.inl ⟨none, 0, rfl, rfl⟩) (fun base cap e => by cases e; rfl) (by simpa using hb)
             simp only [List.length_nil, Nat.zero_add, List.nil_append] at this
             exact out this
           cases h
         · rename_i old
           split at h
           · rename_i hb
             cases h
             refine out (grow (rows_sound s' hX' rfl hb.1) (fun base cap e => ?_) hb.2)
             cases hX' with
             | list _ _ _ _ _ cap' _ _ _ _ hcap ht _ _ _ _ => cases e; exact ht rfl
           cases h
         · rename_i l i n
           split at h
           · rename_i old hold
             split at h
             · rename_i hb
               cases h
               have hs := rows_sound s' hX' hold hb.1
               refine out (grow hs (fun base cap e => ?_) hb.2)
               cases hX' with
               | row _ _ _ _ cl o cap' hρ ho hn ht hl => cases e; exact ht rfl
             cases h
           cases h
         · rename_i l i n
           split at h
           · rename_i T' sz' rows0 hl
             split at h
             · rename_i hb
               obtain ⟨⟨b0, b1⟩, b2, b3⟩ := hb
               subst b0
               subst b1
               cases h
               have hXr := hX'
               cases hX' with
               | row _ _ _ _ cl o cap hρ ho hn ht hlim =>
                 have hclsz : cl.sz = sz' := obj_sz s' (.inl ⟨_, hl⟩) hρ
                 by_cases hroom : n + news.length ≤ cap
                 · have hcap0 : cap ≠ 0 := by omega
                   exact out (append_room s' hu hu2 hd2' hsz c2 hl hρ (ho.resolve_right hcap0) b2 (hlim.resolve_right hcap0) hus glen gnew hroom)
                 -- a new block: the old name dies all the same
                 have hlen0 : ((rows0.drop i).take n).length = n := by simp; omega
                 have hold : rowsOf H1 (.row false l i n) = some ((rows0.drop i).take n) := by
                  simp only [rowsOf, hl]
                  rw [if_pos b2]
                 have hlo : lenOk sz' ((rows0.drop i).take n) = true := by
                  obtain ⟨cl0, cells, e1, e2, e3, e4, e5, e6, e7⟩ := s'.obj l _ hl
                  refine List.all_eq_true.2 (fun r hr => ?_)
                  obtain ⟨q, hq⟩ := List.mem_iff_getElem?.1 (List.mem_of_mem_drop (List.mem_of_mem_take hr))
                  have := (e7 q r hq).1
                  simpa using this
                 have hs := rows_sound s' hXr hold hlo
                 obtain ⟨os, o1, o2, o3⟩ := hs.flat (P := P) c2
                 have g := append_grow (ty := ty) s' hu hu2 hd2' hsz hby hzc c1 c2 (n := 0) (base := some ⟨cl.blk, o, none⟩) (X := Y) (cap := cap) o1 hus (fun w hwc => by have := o3 _ w (Nat.le_refl _) hwc; rw [hlen0] at this ⊢; rw [this, ← hlen0, ← o1.1, List.take_length]) glen gnew (by omega) (by rw [hlen0]; exact b3) c3
                 rw [hlen0] at g
                 obtain ⟨V, c2', k1, k2, k3⟩ := g
                 -- drop the old name
                 have hlt : l < H1.length := (List.getElem?_eq_some_iff.1 hl).1
                 have kk := k2.kill l
                 rw [List.set_append_left _ _ hlt] at kk
                 exact out ⟨V, c2', k1, kk, k3⟩
             cases h
           cases h
         cases h
       cases h
     cases h
   cases h
 cases h
theorem append_sound {P : Program} {c : Cx} {H H' : Hp} (s : Sim c H) {t t2 ty : TypeId} {x y v : AV} {X Y : Value} (hX : Rel c x X) (hY : Rel c y Y) (h : vappend P H t t2 x y = some (v, H')) :
 Yields P c H (Builtin.append_ #[t, t2] ty #[X, Y]) v H' :=
 appendF_sound s (fun g1 hf => ⟨frzFlat s g1 hf, by have := congrArg List.length (frzRows_len hf); simpa using this⟩) hX hY h
theorem appendR_sound {P : Program} {c : Cx} {H H' : Hp} (s : Sim c H) {t t2 ty : TypeId} {x y v : AV} {X Y : Value} (hX : Rel c x X) (hY : Rel c y Y) (h : vappendR P H t t2 x y = some (v, H')) :
 Yields P c H (Builtin.append_ #[t, t2] ty #[X, Y]) v H' :=
 appendF_sound s (fun g1 hf => by cases hf; exact ⟨⟨c, Still.refl s, g1⟩, rfl⟩) hX hY h
end Go.Vi
namespace Go.Vi
theorem RowsAt.putRows {c : Cx} {cells cells' : Array Value} {base sz i m : Nat} {rows news : List (List AV)} {vs : List Value} (h : RowsAt c cells base sz rows) (hf : FlatRows c vs sz news) (hm : m ≤ news.length) (hi : i + m ≤ rows.length)
 (hc : ∀ j, cells'[j]? = if base + i * sz ≤ j ∧ j < base + i * sz + m * sz then vs[j - (base + i * sz)]? else cells[j]?) :
 RowsAt c cells' base sz (rows.take i ++ news.take m ++ rows.drop (i + m)) := by
 intro q r hr
 have h1 : (rows.take i).length = i := by simp; omega
 have h2 : (news.take m).length = m := by simp; omega
 rw [List.append_assoc] at hr
 have old : rows[q]? = some r → (q < i ∨ i + m ≤ q) → r.length = sz ∧ ∀ (j : Nat) (x : AV), r[j]? = some x → ∃ V, cells'[base + q * sz + j]? = some V ∧ V.oneCell' = true ∧ Rel c x V := by
  intro hr hq
  obtain ⟨g1, g2⟩ := h q r hr
  refine ⟨g1, fun j x hx => ?_⟩
  have hj : j < sz := by rw [← g1]; exact (List.getElem?_eq_some_iff.1 hx).1
  obtain ⟨V, v1, v2, v3⟩ := g2 j x hx
  refine ⟨V, ?_, v2, v3⟩
  rw [hc, if_neg]
  · exact v1
  rcases hq with hq | hq
  · have := mul_lt_row hq hj
    omega
  have := Nat.mul_le_mul_right sz hq
  rw [Nat.add_mul] at this
  omega
 by_cases hq : q < i
 · rw [List.getElem?_append_left (by omega), List.getElem?_take, if_pos hq] at hr
   exact old hr (.inl hq)
 rw [List.getElem?_append_right (by omega), h1] at hr
 by_cases hq2 : q < i + m
 · rw [List.getElem?_append_left (by omega), List.getElem?_take, if_pos (by omega)] at hr
   obtain ⟨g1, g2⟩ := hf.2 _ r hr
   refine ⟨g1, fun j x hx => ?_⟩
   have hj : j < sz := by rw [← g1]; exact (List.getElem?_eq_some_iff.1 hx).1
   obtain ⟨V, v1, v2, v3⟩ := g2 j x hx
   refine ⟨V, ?_, v2, v3⟩
   have e : q * sz = i * sz + (q - i) * sz := by rw [← Nat.add_mul]; congr 1; omega
   have hlt := mul_lt_row (show q - i < m by omega) hj
   rw [hc, if_pos (by omega), ← v1]
   congr 1
   omega
 rw [List.getElem?_append_right (by omega), h2, List.getElem?_drop] at hr
 refine old ?_ (.inr (by omega))
 rw [← hr]
 congr 1
 omega
theorem FlatRows.cells {c : Cx} {sz : Nat} : ∀ {rows : List (List AV)} {vs : List Value}, FlatRows c vs sz rows → rows.flatten.length = vs.length ∧ ∀ (j : Nat) (x : AV), rows.flatten[j]? = some x → ∃ V, vs[j]? = some V ∧ V.oneCell' = true ∧ Rel c x V
 | [], vs, h => ⟨by have := h.1; simp at this; simp [this], fun j x hx => by simp at hx⟩
 | r :: rs, vs, h => by
   have hl := h.1
   simp only [List.length_cons, Nat.add_mul, Nat.one_mul] at hl
   have h0 := h.2 0 r (by simp)
   have ht : FlatRows c (vs.drop sz) sz rs := ⟨by rw [List.length_drop]; omega, fun i r' hr' => by
    obtain ⟨g1, g2⟩ := h.2 (i + 1) r' (by simpa using hr')
    refine ⟨g1, fun j x hx => ?_⟩
    obtain ⟨U, u1, u2, u3⟩ := g2 j x hx
    refine ⟨U, ?_, u2, u3⟩
    rw [List.getElem?_drop, ← u1, Nat.add_mul]
    congr 1
    omega⟩
   obtain ⟨i1, i2⟩ := FlatRows.cells ht
   rw [List.length_drop] at i1
   refine ⟨by rw [List.flatten_cons, List.length_append, i1, h0.1]; omega, fun j x hx => ?_⟩
   rw [List.flatten_cons] at hx
   by_cases hj : j < r.length
   · rw [List.getElem?_append_left hj] at hx
     obtain ⟨U, u1, u2, u3⟩ := h0.2 j x hx
     exact ⟨U, by simpa using u1, u2, u3⟩
   rw [List.getElem?_append_right (by omega)] at hx
   obtain ⟨U, u1, u2, u3⟩ := i2 _ x hx
   refine ⟨U, ?_, u2, u3⟩
   rw [List.getElem?_drop] at u1
   rw [← u1]
   congr 1
   have := h0.1
   omega
theorem FlatRows.take {c : Cx} {vs : List Value} {sz m : Nat} {rows : List (List AV)} (h : FlatRows c vs sz rows) (hm : m ≤ rows.length) : FlatRows c (vs.take (m * sz)) sz (rows.take m) := by
 have hle : m * sz ≤ rows.length * sz := Nat.mul_le_mul_right sz hm
 refine ⟨by rw [List.length_take, List.length_take, h.1, Nat.min_eq_left hm, Nat.min_eq_left hle], fun i r hr => ?_⟩
 rw [List.getElem?_take] at hr
 split at hr
 · rename_i hi
   obtain ⟨g1, g2⟩ := h.2 i r hr
   refine ⟨g1, fun j x hx => ?_⟩
   obtain ⟨U, u1, u2, u3⟩ := g2 j x hx
   refine ⟨U, ?_, u2, u3⟩
   have hj : j < sz := by rw [← g1]; exact (List.getElem?_eq_some_iff.1 hx).1
   rw [List.getElem?_take, if_pos (mul_lt_row hi hj)]
   exact u1
 cases hr
def vcopy (P : Program) (H : Hp) (t : TypeId) (d x : AV) : Option (AV × Hp) :=
 match elemAt P t, srcRows H x with
 | some (none, e, sz), some rows => if lenOk sz rows = true ∧ sz ≠ 0 ∧ (x.isStr = true → sz = 1) then match d with
  | .nils => some (.int .i64 0, H)
  | .list _ old => if rows.length = 0 ∨ old.length = 0 then some (.int .i64 0, H) else none
  | .row _ l i n => match H[l]? with
    | some (.arr T sz' rows0) => if sz' = sz ∧ i + n ≤ rows0.length then
     some (.int .i64 (min rows.length n : Nat), H.set l (.arr T sz (rows0.take i ++ rows.take (min rows.length n) ++ rows0.drop (i + min rows.length n)))) else none
    | _ => none
  | .sub l i k es n => match H[l]? with
    | some (.arr T sz' rows0) => match rows0[i]? with
      | some r => if es = sz ∧ k + n * es ≤ r.length then
       some (.int .i64 (min rows.length n : Nat), H.set l (.arr T sz' (rows0.set i (setC r k (rows.take (min rows.length n)).flatten)))) else none
      | none => none
    | _ => none
  | _ => none
   else none
 | _, _ => none
theorem copy_run {P : Program} {w : World} {t t2 ty e : TypeId} {sz : Nat} (hu : P.underlying t = some (.slice e)) (hsz : szOf P e = some sz) {base : Option Addr} {n cap m : Nat} {Y : Value} {vs : List Value}
 (hlen : (Builtin.lenOf Y).run P w = .ok m w) (hf : (Builtin.firstCells sz (min m n) Y).run P w = .ok vs.toArray w) {w' : World} (hs : ∀ a, base = some a → (storeCells a vs 0).run P w = .ok () w') (hb : base = none → w' = w) :
 (Builtin.copy_ #[t, t2] ty #[.slice base n cap, Y]).run P w = .ok (.int .i64 (min m n : Nat)) w' := by
 simp only [Builtin.copy_, Sem.run_bind, List.getElem?_toArray, List.getElem?_cons_zero, List.getElem?_cons_succ, run_un hu, Result.andThen_ok, hlen, run_sz hsz]
 have e : Nat.min m n = min m n := rfl
 rw [e, hf]
 cases base with
 | none =>
   have := hb rfl
   subst this
   rfl
 | some a =>
   simp only [Result.andThen_ok, Sem.run_bind]
   rw [hs a rfl]
   rfl
theorem copy_sound {P : Program} {c : Cx} {H H' : Hp} (s : Sim c H) {t t2 ty : TypeId} {d x v : AV} {D X : Value} (hD : Rel c d D) (hX : Rel c x X) (h : vcopy P H t d x = some (v, H')) :
 Yields P c H (Builtin.copy_ #[t, t2] ty #[D, X]) v H' := by
 unfold vcopy at h
 split at h
 · rename_i e sz rows he hsrc
   obtain ⟨hsz, hu⟩ := elemAt_of he
   have hu := (hu.resolve_right (fun h => by obtain ⟨_, h, _⟩ := h; cases h)).2
   split at h
   · rename_i hc
     obtain ⟨c1, c2, c3⟩ := hc
     obtain ⟨vs, g1, g2, g3⟩ := src_flat (P := P) s hX hsrc c1 c2 (fun b e => c3 (by rw [e]; rfl))
     have hf : ∀ n, (Builtin.firstCells sz (min rows.length n) X).run P c.w = .ok (vs.take (min rows.length n * sz)).toArray c.w := fun n => g3 _ c.w (Nat.min_le_left _ _) (fun _ => rfl)
     split at h
     · cases h
       cases hD
       refine Yields.same s (V := .int .i64 0) ?_ (.int _ _)
       have := copy_run (P := P) (t2 := t2) (ty := ty) (base := none) (n := 0) (cap := 0) hu hsz (g2 c.w) (hf 0) (w' := c.w) (fun a h => by cases h) (fun _ => rfl)
       rw [this, Nat.min_zero]
       rfl
     · rename_i tg old
       split at h
       · rename_i h0
         cases h
         cases hD with
         | list _ _ b o sz' cap sp hsp F hb hc ht hs hv h1 h2 =>
           have hm : min rows.length old.length = 0 := by omega
           refine Yields.same s (V := .int .i64 0) ?_ (.int _ _)
           have := copy_run (P := P) (t2 := t2) (ty := ty) (base := some ⟨b, o, sp⟩) (n := old.length) (cap := cap) hu hsz (g2 c.w) (hf old.length) (w' := c.w) (fun a h => by cases h; rw [hm, Nat.zero_mul]; simp [storeCells]) (fun h => by cases h)
           rw [this, hm]
           rfl
       cases h
     · rename_i tt l i n
       split at h
       · rename_i T sz' rows0 hl
         split at h
         · rename_i hcond
           obtain ⟨d1, d2⟩ := hcond
           subst d1
           cases h
           cases hD with
           | row _ _ _ _ cl o cap hρ ho hn ht hlim =>
             obtain ⟨cl0, cells, e1, e2, e3, e4, e5, e6, e7⟩ := s.obj l _ hl
             rw [hρ] at e1
             cases e1
             subst e2
             have hm1 : min rows.length n ≤ rows.length := Nat.min_le_left _ _
             have hm2 : min rows.length n ≤ n := Nat.min_le_right _ _
             have hvl : (vs.take (min rows.length n * cl.sz)).length = min rows.length n * cl.sz := by
              rw [List.length_take, g1.1]
              exact Nat.min_eq_left (Nat.mul_le_mul_right _ hm1)
             have one : ∀ v ∈ vs.take (min rows.length n * cl.sz), v.oneCell' = true := fun v hv => g1.one c2 v (List.mem_of_mem_take hv)
             by_cases h0 : min rows.length n = 0
             · have hset : H.set l (.arr T cl.sz (rows0.take i ++ rows.take (min rows.length n) ++ rows0.drop (i + min rows.length n))) = H := by
                rw [h0, List.take_zero, List.append_nil, Nat.add_zero, List.take_append_drop]
                obtain ⟨hi, hx⟩ := List.getElem?_eq_some_iff.1 hl
                rw [← hx]
                exact List.set_getElem_self hi
               rw [hset]
               refine Yields.same s (V := .int .i64 (min rows.length n : Nat)) ?_ (.int _ _)
               exact copy_run hu hsz (g2 c.w) (hf n) (fun a ha => by rw [h0, Nat.zero_mul]; simp [storeCells]) (fun _ => rfl)
             have hcap : cap ≠ 0 := by omega
             have ho' := ho.resolve_right hcap
             have hl2 := hlim.resolve_right hcap
             have h3 : min rows.length n * cl.sz ≤ cap * cl.sz := Nat.mul_le_mul_right _ (by omega)
             obtain ⟨w', cells', hrun, f1, f2, f3, f4, f5, f6, f7, f8⟩ := run_put (P := P) (o := o) e3 (by rw [hvl]; omega) one
             refine ⟨.int .i64 (min rows.length n : Nat), { c with w := w' }, ?_, To.write s ⟨_, hl, rfl⟩ hρ _ f4 f5 f6 f7 f8 (fun m => ⟨cl, cells', hρ, rfl, f1, f2.trans e4, e5, e6, ?_⟩), .int _ _⟩
             · exact copy_run hu hsz (g2 c.w) (hf n) (fun a ha => by cases ha; exact hrun) (fun h => by cases h)
             refine (e7.mono m).putRows (g1.mono m) hm1 (by omega) (fun j => ?_)
             rw [f3, hvl, ho']
             split
             · rename_i hj
               rw [List.getElem?_take, if_pos (by omega)]
             rfl
         cases h
       cases h
     · rename_i l i k es n
       split at h
       · rename_i T sz' rows0 hl
         split at h
         · rename_i r hr
           split at h
           · rename_i hcond
             obtain ⟨d1, d2⟩ := hcond
             subst d1
             cases h
             cases hD with
             | sub _ _ _ _ _ cl o cap hρ ho hn =>
               obtain ⟨cl0, cells, e1, e2, e3, e4, e5, e6, e7⟩ := s.obj l _ hl
               rw [hρ] at e1
               cases e1
               subst e2
               have hm1 : min rows.length n ≤ rows.length := Nat.min_le_left _ _
               have hm2 : min rows.length n ≤ n := Nat.min_le_right _ _
               have hmn : min rows.length n * es ≤ n * es := Nat.mul_le_mul_right _ hm2
               have hvl : (vs.take (min rows.length n * es)).length = min rows.length n * es := by
                rw [List.length_take, g1.1]
                exact Nat.min_eq_left (Nat.mul_le_mul_right _ hm1)
               have one : ∀ v ∈ vs.take (min rows.length n * es), v.oneCell' = true := fun v hv => g1.one c2 v (List.mem_of_mem_take hv)
               have hrl := (e7 i r hr).1
               by_cases h0 : n = 0
               · subst h0
                 have hz : min rows.length 0 = 0 := Nat.min_zero _
                 have hset : H.set l (.arr T cl.sz (rows0.set i (setC r k (rows.take (min rows.length 0)).flatten))) = H := by
                  have h1 : setC r k (rows.take (min rows.length 0)).flatten = r := by rw [hz]; simp [setC]
                  rw [h1]
                  have h2 : rows0.set i r = rows0 := by
                   obtain ⟨hi, rfl⟩ := List.getElem?_eq_some_iff.1 hr
                   exact List.set_getElem_self hi
                  rw [h2]
                  obtain ⟨hi, hx⟩ := List.getElem?_eq_some_iff.1 hl
                  rw [← hx]
                  exact List.set_getElem_self hi
                 rw [hset]
                 refine Yields.same s (V := .int .i64 (min rows.length 0 : Nat)) ?_ (.int _ _)
                 exact copy_run hu hsz (g2 c.w) (hf 0) (fun a ha => by rw [hz, Nat.zero_mul]; simp [storeCells]) (fun _ => rfl)
               have ho' := ho.resolve_right h0
               have hfit : o + (vs.take (min rows.length n * es)).length ≤ cells.size := by
                rw [hvl]
                by_cases h3 : min rows.length n * es = 0
                · have h4 : n * es ≠ 0 := Nat.mul_ne_zero h0 c2
                  have := RowsAt.lim e7 hr (show k < cl.sz by omega)
                  omega
                have := RowsAt.lim e7 hr (show k + min rows.length n * es - 1 < cl.sz by omega)
                omega
               obtain ⟨w', cells', hrun, f1, f2, f3, f4, f5, f6, f7, f8⟩ := run_put (P := P) e3 hfit one
               refine ⟨.int .i64 (min rows.length n : Nat), { c with w := w' }, ?_, To.write s ⟨_, hl, rfl⟩ hρ _ f4 f5 f6 f7 f8 (fun m => ⟨cl, cells', hρ, rfl, f1, f2.trans e4, e5, e6, ?_⟩), .int _ _⟩
               · exact copy_run hu hsz (g2 c.w) (hf n) (fun a ha => by cases ha; exact hrun) (fun h => by cases h)
               have hcs := ((g1.take hm1).mono m).cells
               refine RowsAt.put (e7.mono m) hr (by rw [hcs.1, hvl]; omega) hcs.1.symm hcs.2 (fun j => ?_)
               rw [f3, ho']
           cases h
         cases h
       cases h
     cases h
   cases h
 cases h
def numsOf : List (List AV) → Option (List Int)
 | [] => some []
 | [.int .u8 n] :: r => match numsOf r with
   | some l => some (n :: l)
   | none => none
 | _ => none
theorem numsOf_get : ∀ {rows : List (List AV)} {xs : List Int}, numsOf rows = some xs → xs.length = rows.length ∧ ∀ (i : Nat) (r : List AV), rows[i]? = some r → r = [.int .u8 (xs.getD i 0)]
 | [], xs, h => by cases h; exact ⟨rfl, fun i r hr => by cases hr⟩
 | row :: rs, xs, h => by
   unfold numsOf at h
   split at h
   · rename_i heq; cases heq
   · rename_i n r' heq
     cases heq
     split at h
     · rename_i l hl
       cases h
       obtain ⟨i1, i2⟩ := numsOf_get hl
       refine ⟨by simp [i1], fun i r hr => ?_⟩
       cases i with
       | zero => simp at hr; subst hr; rfl
       | succ i => simpa using i2 i r (by simpa using hr)
     cases h
   cases h
def vconv (P : Program) (H : Hp) (src dst : TypeId) (x : AV) : Option AV :=
 match P.underlying src, P.underlying dst, x with
 | some (.slice e), some .string, x => match P.underlying e, rowsOf H x with
   | some (.int .u8), some rows => (numsOf rows).map fun xs => .str (strOfNums xs)
   | _, _ => none
 | some .string, some (.slice e), .str s => match P.underlying e with
   | some (.int .u8) => some (.list .loose (strRows s))
   | _ => none
 | _, _, _ => vconvInt P src dst x
theorem numsOf_len {rows : List (List AV)} {xs : List Int} (h : numsOf rows = some xs) : lenOk 1 rows = true := by
 refine List.all_eq_true.2 (fun r hr => ?_)
 obtain ⟨i, hi⟩ := List.mem_iff_getElem?.1 hr
 rw [(numsOf_get h).2 i r hi]
 rfl
theorem To.newI {c : Cx} {H : Hp} (s : Sim c H) {w' : World} (hsz : c.w.heap.size < w'.heap.size) (hh : ∀ b, b < c.w.heap.size → w'.heap[b]? = c.w.heap[b]?) (h1 : w'.os = c.w.os) (h2 : w'.tape = c.w.tape) (h3 : w'.output = c.w.output) :
 To c H { c with w := w', I := fun b => c.I b ∨ b = c.w.heap.size } H := by
 have m : Mono c { c with w := w', I := fun b => c.I b ∨ b = c.w.heap.size } := ⟨fun _ h => .inl h, fun _ h => h, fun _ _ h => h, fun b h => hh b (h.elim (s.bound b) (s.boundB b))⟩
 refine ⟨⟨m, by show c.w.heap.size ≤ w'.heap.size; omega, fun b hb _ => hh b hb, fun b h => h.elim .inl (fun e => .inr (.inl (by omega))), fun _ => Iff.rfl, fun _ _ h => .inl h, h1, h2, h3⟩, ⟨fun b hb => ?_, fun b hb => ?_, fun l o h => ?_, s.inj, s.fresh⟩, Nat.le_refl _, fun _ _ h => h⟩
 · show b < w'.heap.size
   rcases hb with hb | hb
   · have := s.bound b hb; omega
   omega
 · show b < w'.heap.size
   have := s.boundB b hb; omega
 refine (s.obj l o h).keep m (fun cl hr hv hi => ?_) (fun _ h => h) (fun cl hr hv => hh _ (s.lt (live_of h hv) hr))
 rcases hi with hi | hi
 · exact hi
 have := s.lt (live_of h hv) hr; omega
theorem conv_sound {P : Program} {c : Cx} {H : Hp} (s : Sim c H) {src dst : TypeId} {x v : AV} {X : Value} (hX : Rel c x X) (h : vconv P H src dst x = some v) : Yields P c H (convert src dst X) v H := by
 unfold vconv at h
 split at h
 · rename_i x' e hs hd
   split at h
   · rename_i rows he hr
     cases hn : numsOf rows with
     | none => rw [hn] at h; cases h
     | some xs =>
       rw [hn] at h
       cases h
       obtain ⟨n1, n2⟩ := numsOf_get hn
       have hsl := rows_sound s hX hr (numsOf_len hn)
       refine Yields.same s (V := .string (strOfNums xs)) ?_ (.str _)
       rcases hsl with ⟨base, cap, rfl, rfl⟩ | ⟨b, o, cap, rfl, hc⟩
       · have : xs = [] := List.eq_nil_of_length_eq_zero (by simpa using n1)
         subst this
         cases base with
         | none => exact run_convert_bytes_nil c.w src e hs he 0 cap dst hd
         | some a =>
           have hl := run_loadCells_list (P := P) c.w a [] (fun j v h => by cases h)
           have hl' : (loadCells a 0).run P c.w = .ok (([] : List Int).map (Value.int .u8)).toArray c.w := by simpa using hl
           rw [run_convert_bytes_string c.w src dst e _ 0 cap hs he hd, run_bytesToString c.w a 0 cap [] hl']
           rfl
       refine run_convert_bytes_arg c.w src e hs he b o rows.length cap xs n1 (fun i hi => ?_) dst hd
       have hr' : rows[i]? = some rows[i] := List.getElem?_eq_getElem hi
       obtain ⟨_, g2⟩ := hc i _ hr'
       rw [n2 i _ hr'] at g2
       obtain ⟨V, v1, v2, v3⟩ := g2 0 _ rfl
       cases v3
       simpa using v1
   cases h
 · rename_i e sb hs hd
   split at h
   · rename_i he
     cases h
     cases hX
     obtain ⟨cp, hcp⟩ : ∃ m, m = (Question.appendCap sb.size 0 e).cut (c.w.tape c.w.drawn (.appendCap sb.size 0 e)) := ⟨_, rfl⟩
     have hle : sb.size ≤ cp := by rw [hcp]; simp only [Question.cut]; omega
     let cells : Array Value := sb.data.map (fun b => .int .u8 b.toNat) ++ Array.replicate (cp - sb.size) (.int .u8 0)
     have hsize : cells.size = cp := by
      have : sb.data.size = sb.size := rfl
      simp [cells]; omega
     let w1 : World := { c.w.drew with heap := c.w.heap.push (.cells cells e) }
     let w' : World := w1.freeze ⟨c.w.heap.size, cells.size, none⟩ 1
     have hrun : (convert src dst (.string sb)).run P c.w = .ok (.slice (some ⟨c.w.heap.size, 0, none⟩) sb.size cp) w' := by
      have frc : (Question.appendCap sb.size 0 e).forced = false := rfl
      have hshape : w1.shape? c.w.heap.size = some (e, cells.size) := by simp [World.shape?, w1]
      have hw1 : ({ c.w with drawn := c.w.drawn + 1, heap := c.w.heap.push (.cells cells e) } : World) = w1 := rfl
      simp only [convert, Sem.run_bind, run_un hs, run_un hd, Result.andThen_ok, run_un he, Conv.stringToBytes, run_choose, frc, Bool.false_eq_true, if_false, ← hcp, newRow, run_newObj, Sem.run_pure, markStringish, run_shape]
      show (Sem.run P (match w1.shape? c.w.heap.size with | some (_, n) => freeze { block := c.w.heap.size, off := n } 1 | _ => pure ()) w1).andThen _ = _
      rw [hshape]
      rfl
     have hheap : ∀ b, w'.heap[b]? = if b = c.w.heap.size then some (.cells cells e (cells.size, cells.size + 1)) else c.w.heap[b]? := fun b => by
      simp only [w', World.freeze, Nat.one_ne_zero, if_false, Array.getElem?_modify, w1]
      by_cases hb : b = c.w.heap.size
      · subst hb
        simp
      rw [if_neg (Ne.symm hb), if_neg hb, Array.getElem?_push, if_neg hb]
     have hws : w'.heap.size = c.w.heap.size + 1 := by simp [w', World.freeze, w1]
     have hnew : w'.heap[c.w.heap.size]? = some (.cells cells e (cells.size, cells.size + 1)) := by rw [hheap, if_pos rfl]
     have hget : ∀ (i : Nat) (h : i < sb.data.size), cells[i]? = some (.int .u8 (sb.data[i].toNat : Int)) := fun i h => by
      simp only [cells]
      rw [Array.getElem?_append_left (by rw [Array.size_map]; exact h), Array.getElem?_map, Array.getElem?_eq_getElem h]
      rfl
     have T := To.newI s (w' := w') (by omega) (fun b hb => by rw [hheap, if_neg (by omega)]) rfl rfl rfl
     refine ⟨_, _, hrun, T, ?_⟩
     have hlen : (strRows sb).length = sb.size := by unfold strRows; rw [List.length_map]; rfl
     have hrel := Rel.list (c := { c with w := w', I := fun b => c.I b ∨ b = c.w.heap.size }) .loose (strRows sb) c.w.heap.size 0 1 cp none (.inr rfl) (fun i j => cells.getD i undef) (.inr (.inr rfl)) (by omega) (fun h => by cases h)
      (fun r hr => by unfold strRows at hr; obtain ⟨b, _, rfl⟩ := List.mem_map.1 hr; rfl)
      (List.all_eq_true.2 (fun r hr => by unfold strRows at hr; obtain ⟨b, _, rfl⟩ := List.mem_map.1 hr; rfl))
      (fun i j hi hj => ?_) (fun i r j x hr hx => ?_)
     · rwa [hlen] at hrel
     · have hj0 : j = 0 := by omega
       subst hj0
       rw [hlen] at hi
       rw [cell_at hnew]
       have hi3 : i < sb.data.size := hi
       have e0 : 0 + i * 1 + 0 = i := by omega
       rw [e0, Array.getD_eq_getD_getElem?, hget i hi3]
       exact ⟨rfl, rfl⟩
     unfold strRows at hr
     rw [List.getElem?_map] at hr
     cases hb : sb.data.toList[i]? with
     | none => rw [hb] at hr; cases hr
     | some b =>
       rw [hb] at hr
       cases hr
       have hi3 : i < sb.data.size := by have := (List.getElem?_eq_some_iff.1 hb).1; simpa using this
       have hbv : sb.data[i] = b := by
        have := (List.getElem?_eq_some_iff.1 hb).2
        simpa using this
       cases j with
       | succ j => simp at hx
       | zero =>
         simp at hx
         subst hx
         have : cells.getD i undef = .int .u8 (b.toNat : Int) := by rw [Array.getD_eq_getD_getElem?, hget i hi3, hbv]; rfl
         rw [this]
         exact .int _ _
   cases h
 obtain ⟨V, h1, h2⟩ := convInt_sound hX h
 exact Yields.same s h1 h2
end Go.Vi
namespace Go.Vi
theorem lies_bytes {P : Program} {e : TypeId} (hc : P.cellsOf e = 1) (count off n : Nat) (hn : off + n ≤ count) : liesAt P P.depth e count off e n = true := by
 have hd : P.depth = (2 * (P.types.size + Made.depth) + 1) + 1 := rfl
 rw [hd]
 simp only [liesAt, Bool.or_eq_true]
 left
 rw [hd]
 simp [rowAt, hc, hn, sameLayout, Nat.mod_one]
def vsame (P : Program) (t : TypeId) (x y : AV) : Option Bool :=
 match P.underlying t, x, y with
 | some .bool, .bool a, .bool b => some (a == b)
 | some (.pointer te), .ptr l i k, .ptr l' i' k' => if l = l' ∧ i = i' ∧ k = k' ∧ (P.info? te).isSome = true then some true else none
 | _, _, _ => none
def leafEq (P : Program) (t : TypeId) (x y : AV) : Option Bool :=
 match P.underlying t, x, y with
 | some .bool, .bool a, .bool b => some (a == b)
 | some (.int _), .int k a, .int k' b => if k = k' then some (a == b) else none
 | some .string, .str a, .str b => some (seq a b)
 | _, _, _ => none
def eqCells (P : Program) (xs ys : List AV) : List Field → Option Bool
 | [] => some true
 | f :: r => if f.name = "_" then none else match xs[f.offset]?, ys[f.offset]? with
   | some a, some b => match leafEq P f.type a b, eqCells P xs ys r with
     | some p, some q => some (p && q)
     | _, _ => none
   | _, _ => none
def isStruct (P : Program) (t : TypeId) : Bool := match P.underlying t with
 | some (.struct _) => true
 | _ => false
def veqAgg (P : Program) (t : TypeId) (x y : AV) : Option Bool :=
 match x, y with
 | .agg xs, .agg ys => if isStruct P t = true ∧ P.stoodInHeld t = false ∧ P.eqGuardType P.depth t = false then eqCells P xs ys (P.fieldsOf t).toList else none
 | _, _ => none
theorem leafEq_sound {P : Program} {c : Cx} {t : TypeId} {x y : AV} {X Y : Value} {b : Bool} (hX : Rel c x X) (hY : Rel c y Y) (h : leafEq P t x y = some b) (d : Nat) (w : World) :
 P.plainKey t = true ∧ (Op.equalIn (d + 1) t X Y).run P w = .ok b w := by
 unfold leafEq at h
 split at h
 · rename_i hu
   cases h; cases hX; cases hY
   exact ⟨by simp [Program.plainKey, hu], run_equalIn_bool w d t _ _ hu⟩
 · rename_i hu
   split at h
   · rename_i e
     subst e
     cases h; cases hX; cases hY
     exact ⟨by simp [Program.plainKey, hu], run_equalIn_int w d t _ _ _ _ hu⟩
   cases h
 · rename_i hu
   cases h; cases hX; cases hY
   exact ⟨by simp [Program.plainKey, hu], run_equalIn_string w d t _ _ hu⟩
 cases h
theorem eqCells_sound {P : Program} {c : Cx} {xs ys : List AV} {Xs Ys : Array Value} (hX : Rel c (.agg xs) (.agg Xs)) (hY : Rel c (.agg ys) (.agg Ys)) (d : Nat) (w : World) : ∀ (fs : List Field) (b : Bool), eqCells P xs ys fs = some b → (Op.eqFields (d + 1) Xs Ys fs).run P w = .ok b w
 | [], b, h => by
   cases h
   simp [Op.eqFields]
 | f :: r, b, h => by
   simp only [eqCells] at h
   split at h
   · cases h
   rename_i hn
   split at h
   · rename_i x y hx hy
     split at h
     · rename_i p q hp hq
       cases h
       have ih := eqCells_sound hX hY d w r q hq
       cases hX with
       | agg _ _ hl h1 h2 =>
         cases hY with
         | agg _ _ hl' h1' h2' =>
           obtain ⟨X, hXe⟩ : ∃ X, Xs[f.offset]? = some X := ⟨_, Array.getElem?_eq_getElem (by have := (List.getElem?_eq_some_iff.1 hx).1; omega)⟩
           obtain ⟨Y, hYe⟩ : ∃ Y, Ys[f.offset]? = some Y := ⟨_, Array.getElem?_eq_getElem (by have := (List.getElem?_eq_some_iff.1 hy).1; omega)⟩
           obtain ⟨hk, hr⟩ := leafEq_sound (h2 _ _ _ hx hXe) (h2' _ _ _ hy hYe) hp d w
           simp only [Op.eqFields, hn, ne_eq, not_false_eq_true, if_true, Sem.run_bind, run_part_plain w hk hXe, run_part_plain w hk hYe, hr, Result.andThen_ok]
           cases p
           · simp
           simpa using ih
     cases h
   cases h
theorem eqAgg_sound {P : Program} {c : Cx} {t : TypeId} {x y : AV} {X Y : Value} {b : Bool} (hX : Rel c x X) (hY : Rel c y Y) (h : veqAgg P t x y = some b) (ox oy : Operand) (w : World) :
 ((binOp .eql t X Y).run P w = .ok (.bool b) w ∧ (binOp .neq t X Y).run P w = .ok (.bool (!b)) w) ∧ (∀ op', (eqGuard op' t ox oy X Y).run P w = .ok () w) := by
 unfold veqAgg at h
 split at h
 · rename_i xs ys
   split at h
   · rename_i hc
     obtain ⟨h1, h2, h3⟩ := hc
     have hst : P.underlying t = some (.struct (P.fieldsOf t)) := by
      unfold isStruct at h1
      unfold Program.fieldsOf
      split at h1
      · rename_i fs hu; rw [hu]
      cases h1
     obtain ⟨Xs, rfl⟩ : ∃ Xs, X = .agg Xs := by cases hX; exact ⟨_, rfl⟩
     obtain ⟨Ys, rfl⟩ : ∃ Ys, Y = .agg Ys := by cases hY; exact ⟨_, rfl⟩
     have hr := run_equalIn_struct (P := P) w 9999 t Xs Ys hst h2
     rw [eqCells_sound hX hY 9998 w _ _ h] at hr
     refine ⟨⟨?_, ?_⟩, fun op' => run_eqGuard_agg w op' t ox oy Xs Ys h3⟩
     · rw [run_eql_struct, hr]; rfl
     rw [run_neq_struct, hr]; rfl
   cases h
 cases h
def orB (a b : Option Bool) : Option Bool := match a with
 | some x => some x
 | none => b
def vbinX (P : Program) (op : BinOp) (t : TypeId) (x y : AV) : Option AV :=
 match op with
 | .eql => (orB (vsame P t x y) (veqAgg P t x y)).map .bool
 | .neq => (orB (vsame P t x y) (veqAgg P t x y)).map fun b => .bool (!b)
 | _ => none
theorem binX_sound {P : Program} {c : Cx} {op : BinOp} {t : TypeId} {x y v : AV} {X Y : Value} (ox oy : Operand) (hX : Rel c x X) (hY : Rel c y Y) (h : vbinX P op t x y = some v) :
 ∃ V, (do eqGuard op t ox oy X Y; binOp op t X Y : Sem Value).run P c.w = .ok V c.w ∧ Rel c v V := by
 have key : ∀ b, orB (vsame P t x y) (veqAgg P t x y) = some b → ((binOp .eql t X Y).run P c.w = .ok (.bool b) c.w ∧ (binOp .neq t X Y).run P c.w = .ok (.bool (!b)) c.w) ∧ (∀ op', (eqGuard op' t ox oy X Y).run P c.w = .ok () c.w) := by
  intro b hb
  cases hs : vsame P t x y with
  | none =>
    rw [hs] at hb
    exact eqAgg_sound hX hY hb ox oy c.w
  | some b0 =>
  rw [hs] at hb
  cases hb
  replace hb := hs
  clear hs
  unfold vsame at hb
  split at hb
  · rename_i a b' hu
    cases hb
    cases hX
    cases hY
    have k1 : ∀ d : Nat, (Op.equalIn (d + 1) t (.bool a) (.bool b')).run P c.w = .ok (a == b') c.w := fun d => by simp [Op.equalIn, run_underlying hu]
    refine ⟨⟨?_, ?_⟩, fun op' => by cases op' <;> simp [eqGuard]⟩ <;> simp only [binOp] <;> simp [Op.equal, Op.maxDepth, k1 9999]
  · rename_i te l i k l' i' k' hu
    split at hb
    · rename_i hc
      cases hb
      obtain ⟨rfl, rfl, rfl, hi⟩ := hc
      cases hX with
      | ptr _ _ _ cl hρ =>
        cases hY with
        | ptr _ _ _ cl' hρ' =>
          rw [hρ] at hρ'
          obtain rfl : cl = cl' := Option.some.inj hρ'
          obtain ⟨j, hj⟩ := Option.isSome_iff_exists.1 hi
          refine ⟨⟨?_, ?_⟩, fun op' => by cases op' <;> simp [eqGuard]⟩
          · exact run_eql_ptr_same c.w _ hu hj
          exact Lib.run_neq_ptr_same c.w _ hu hj
    cases hb
  cases hb
 cases op <;> simp only [vbinX] at h <;> first
  | (cases h; done)
  | (obtain ⟨b, h1, h2⟩ := Option.map_eq_some_iff.1 h
     obtain ⟨⟨k1, k3⟩, k2⟩ := key b h1
     subst h2
     refine ⟨_, ?_, .bool _⟩
     rw [Sem.run_bind, k2]
     first
      | exact k1
      | exact k3)
def vconvX (P : Program) (H : Hp) (src dst : TypeId) (x : AV) : Option AV :=
 match x with
 | .ptr l 0 0 => match H[l]? with
   | some (.one T cs) => match P.underlying src, P.underlying dst with
     | some (.pointer t), some .unsafePointer => match P.info? t with
       | some j => if j.size ≠ 0 ∧ cs.length ≠ 0 then some (.ptr l 0 0) else none
       | none => none
     | some .unsafePointer, some (.pointer u) => match P.info? u with
       | some j => if liesAt P P.depth T (cs.length / P.cellsOf T) 0 u 1 = true then some (.ptr l 0 0) else none
       | none => none
     | _, _ => none
   | _ => none
 | _ => none
theorem convX_sound {P : Program} {c : Cx} {H : Hp} (s : Sim c H) {src dst : TypeId} {x v : AV} {X : Value} (hX : Rel c x X) (h : vconvX P H src dst x = some v) : Yields P c H (convert src dst X) v H := by
 unfold vconvX at h
 split at h
 · rename_i l
   split at h
   · rename_i T cs hl
     obtain ⟨cl, cells, e1, e2, e3, e4, e5, e6, e7, e8, e9⟩ := s.obj l _ hl
     cases hX with
     | ptr _ _ _ cl' hρ =>
       rw [hρ] at e1
       obtain rfl : cl' = cl := Option.some.inj e1
       have hsh : c.w.shape? cl'.blk = some (T, cs.length) := by simp [World.shape?, e3, e4, e9]
       have hoff : cl'.base + 0 * cl'.sz + 0 = 0 := by simp [e8]
       split at h
       · rename_i t hs hd
         split at h
         · rename_i j hj
           split at h
           · rename_i hc
             cases h
             refine Yields.same s (V := .pointer (some ⟨cl'.blk, cl'.base + 0 * cl'.sz + 0, none⟩)) ?_ (.ptr l 0 0 cl' hρ)
             rw [hoff]
             exact Lib.run_to_unsafe c.w ⟨cl'.blk, 0, none⟩ hs hd hj hc.1 hsh (by show 0 < cs.length; omega)
           cases h
         cases h
       · rename_i u hs hd
         split at h
         · rename_i j hj
           split at h
           · rename_i hc
             cases h
             refine Yields.same s (V := .pointer (some ⟨cl'.blk, cl'.base + 0 * cl'.sz + 0, none⟩)) ?_ (.ptr l 0 0 cl' hρ)
             rw [hoff]
             exact Lib.run_from_unsafe c.w ⟨cl'.blk, 0, none⟩ hs hd hj hsh hc
           cases h
         cases h
       cases h
   cases h
 cases h
def valloc1 (P : Program) (H : Hp) (t : TypeId) : Option (AV × Hp) :=
 match zrOf P t with
 | some z => match z.cells with
   | some cs => some (.ptr H.length 0 0, H ++ [.one t cs])
   | none => none
 | none => none
theorem alloc1_sound {P : Program} {c : Cx} {H H' : Hp} (s : Sim c H) {t : TypeId} {v : AV} (h : valloc1 P H t = some (v, H')) : Yields P c H (Instr.alloc t true (.tuple #[])) v H' := by
 unfold valloc1 at h
 split at h
 · rename_i z hz
   split at h
   · rename_i cs hcs
     cases h
     obtain ⟨Z, h1, h2⟩ := run_zr hz c.w
     have hZ := (h2 c).cells hcs
     have hrow := rows_one (h2 c) hcs
     have hT := To.new s (.one t cs) (.cells Z.cells t) ⟨c.w.heap.size, 0, cs.length, Z.cells.size⟩ rfl fun c' m hρ hh hI hB =>
      ⟨_, Z.cells, hρ, rfl, hh, rfl, hI, hB, hrow.mono m, rfl, hZ.1⟩
     refine ⟨.pointer (some ⟨c.w.heap.size, 0, none⟩), _, ?_, hT, ?_⟩
     · simp [Instr.alloc, newVar, newRow, World.alloc_eq, h1]
     have := Rel.ptr (c := { c with w := c.w.alloc (.cells Z.cells t), ρ := updρ c.ρ H.length ⟨c.w.heap.size, 0, cs.length, Z.cells.size⟩ }) H.length 0 0 _ (updρ_self _ _ _)
     simpa using this
   cases h
 cases h
theorem To.freezeW {c : Cx} {H : Hp} (s : Sim c H) {T : TypeId} {l sz : Nat} {rows : List (List AV)} (hl : H[l]? = some (.arr T sz rows)) (hv : allVal rows = true) {cl : CL} (e1 : c.ρ l = some cl) {w' : World} {cells : Array Value} {fr : Nat × Nat}
 (h0 : c.w.heap[cl.blk]? = some (.cells cells T (0, 0))) (hsz : w'.heap.size = c.w.heap.size) (hb : w'.heap[cl.blk]? = some (.cells cells T fr)) (hh : ∀ b, b ≠ cl.blk → w'.heap[b]? = c.w.heap[b]?) (h1 : w'.os = c.w.os) (h2 : w'.tape = c.w.tape) (h3 : w'.output = c.w.output) :
 To c H { c with w := w', I := fun b => c.I b ∨ b = cl.blk } (H.set l (.frz sz rows)) := by
 obtain ⟨cl0, cells0, f1, e2, e3, e4, e5, e6, e7⟩ := s.obj l _ hl
 rw [e1] at f1
 obtain rfl : cl = cl0 := Option.some.inj f1
 rw [h0] at e3
 cases e3
 have hlen : l < H.length := (List.getElem?_eq_some_iff.1 hl).1
 have hne : ∀ b, c.I b ∨ c.B b → b ≠ cl.blk := fun b h e => by subst e; exact h.elim e5 e6
 have m : Mono c { c with w := w', I := fun b => c.I b ∨ b = cl.blk } := ⟨fun _ h => .inl h, fun _ h => h, fun _ _ h => h, fun b h => hh b (hne b h)⟩
 have lv : ∀ k, live (H.set l (.frz sz rows)) k → k ≠ l ∧ live H k := fun k ⟨o2, h, hv2⟩ => by
  by_cases e : k = l
  · subst e
    rw [List.getElem?_set_self hlen] at h
    cases h
    cases hv2
  rw [List.getElem?_set_ne (Ne.symm e)] at h
  exact ⟨e, o2, h, hv2⟩
 have hlt : cl.blk < c.w.heap.size := (Array.getElem?_eq_some_iff.1 h0).1
 refine ⟨⟨m, by show c.w.heap.size ≤ w'.heap.size; omega, fun b hb hn => hh b (fun e => hn ⟨l, cl, ⟨_, hl, rfl⟩, e1, e.symm⟩), fun b h => h.elim .inl (fun e => .inr (.inr ⟨l, cl, ⟨_, hl, rfl⟩, e1, e.symm⟩)), fun _ => Iff.rfl, fun _ _ h => .inl h, h1, h2, h3⟩,
  ⟨fun b hb => ?_, fun b hb => ?_, fun k o2 h => ?_, fun a b c1 c2 ha hb => s.inj a b c1 c2 (lv a ha).2 (lv b hb).2, fun k hk => s.fresh k (by simpa using hk)⟩, by simp, fun k _ h => (lv k h).2⟩
 · show b < w'.heap.size
   rcases hb with hb | rfl
   · have := s.bound b hb; omega
   omega
 · show b < w'.heap.size
   have := s.boundB b hb; omega
 by_cases e : k = l
 · subst e
   rw [List.getElem?_set_self hlen] at h
   cases h
   exact ⟨hv, cl, cells, T, fr, e1, e2, hb, e4, .inr rfl, e7.mono m⟩
 rw [List.getElem?_set_ne (Ne.symm e)] at h
 have hbk : ∀ cl2, c.ρ k = some cl2 → o2.live = true → cl2.blk ≠ cl.blk := fun cl2 hr2 hv2 hi => e (s.inj k l cl2 cl (live_of h hv2) ⟨_, hl, rfl⟩ hr2 e1 hi)
 refine (s.obj k o2 h).keep m (fun cl2 hr2 hv2 hi => ?_) (fun _ h => h) (fun cl2 hr2 hv2 => hh _ (hbk cl2 hr2 hv2))
 rcases hi with hi | hi
 · exact hi
 exact absurd hi (hbk cl2 hr2 hv2)
def vsliceData (x : AV) : Option AV :=
 match x with
 | .nils => some .nilp
 | .row _ l i n => if n ≠ 0 then some (.ptr l i 0) else none
 | _ => none
theorem sliceData_sound {P : Program} {c : Cx} {ts : Array TypeId} {ty : TypeId} {x v : AV} {X : Value} (hX : Rel c x X) (h : vsliceData x = some v) :
 ∃ V, (Builtin.unsafeSliceData_ ts ty #[X]).run P c.w = .ok V c.w ∧ Rel c v V := by
 unfold vsliceData at h
 split at h
 · cases h
   cases hX
   exact ⟨_, Lib.run_unsafeSliceData_nil c.w ts ty 0 0, .nilp⟩
 · rename_i t l i n
   split at h
   · rename_i hn
     cases h
     cases hX with
     | row _ _ _ _ cl o cap hρ ho hc ht hlim =>
       have hcap : cap ≠ 0 := by omega
       refine ⟨_, Lib.run_unsafeSliceData_row c.w ts ty _ n cap hcap, ?_⟩
       rw [ho.resolve_right hcap]
       exact .ptr l i 0 cl hρ
   cases h
 cases h
def byteRows : List (List AV) → Option (List UInt8)
 | [] => some []
 | [.int .u8 n] :: r => match byteRows r with
   | some bs => if 0 ≤ n ∧ n < 256 then some (n.toNat.toUInt8 :: bs) else none
   | none => none
 | _ :: _ => none
theorem byteRows_get : ∀ {rows : List (List AV)} {bs : List UInt8}, byteRows rows = some bs → bs.length = rows.length ∧ ∀ (j : Nat) (x : UInt8), bs[j]? = some x → rows[j]? = some [.int .u8 x.toNat]
 | [], bs, h => by cases h; exact ⟨rfl, fun j x h => by cases h⟩
 | [] :: r, bs, h => by simp [byteRows] at h
 | (y :: z :: q) :: r, bs, h => by simp [byteRows] at h
 | [y] :: r, bs, h => by
   cases y with
   | int k n =>
     cases k with
     | u8 =>
       simp only [byteRows] at h
       split at h
       · rename_i bs' hb
         split at h
         · rename_i hn
           cases h
           obtain ⟨i1, i2⟩ := byteRows_get hb
           refine ⟨by simp [i1], fun j x hx => ?_⟩
           cases j with
           | zero =>
             simp at hx
             subst hx
             have : (n.toNat.toUInt8.toNat : Int) = n := by
              have h2 : n.toNat < 256 := by omega
              rw [UInt8.toNat_ofNat']
              omega
             simp only [List.getElem?_cons_zero, this]
           | succ j => simpa using i2 j x (by simpa using hx)
         cases h
       cases h
     | _ => simp [byteRows] at h
   | _ => simp [byteRows] at h
def vunsafeStr (P : Program) (H : Hp) (ts : Array TypeId) (p n : AV) : Option (AV × Hp) :=
 match p, n with
 | .nilp, .int .i64 0 => some (.str .empty, H)
 | .ptr l i 0, .int .i64 n => match ts.toList with
   | [pt, _] => match P.underlying pt, H[l]? with
     | some (.pointer e), some (.arr T sz rows) => if 0 < n ∧ n ≤ 9223372036854775807 ∧ T = e ∧ sz = 1 ∧ P.cellsOf e = 1 ∧ allVal rows = true then match byteRows ((rows.drop i).take n.toNat) with
      | some bs => if bs.length = n.toNat then some (.str ⟨bs.toArray⟩, H.set l (.frz sz rows)) else none
      | none => none
       else none
     | _, _ => none
   | _ => none
 | _, _ => none
theorem run_unsafeString {P : Program} (w : World) (pt it ty e : TypeId) (hp : P.underlying pt = some (.pointer e)) (hc : P.cellsOf e = 1) (g o cells : Nat) (hsh : w.shape? g = some (e, cells)) (l : List UInt8) (h0 : l ≠ []) (hn : o + l.length ≤ cells) (h63 : l.length ≤ 9223372036854775807)
 (hcell : ∀ j x, l[j]? = some x → w.cell? ((⟨g, o, none⟩ : Addr).add j) = some (.int .u8 x.toNat)) :
 (Builtin.unsafeString_ #[pt, it] ty #[.pointer (some ⟨g, o, none⟩), .int .i64 l.length]).run P w = .ok (.string ⟨l.toArray⟩) (w.freeze ⟨g, o, none⟩ l.length) := by
 have hl : l.length ≠ 0 := by simpa using h0
 have hlb := Lib.run_loadBytes (P := P) w l ⟨g, o, none⟩ .empty hcell
 have hlies := lies_bytes (P := P) hc (cells / P.cellsOf e) o l.length (by rw [hc]; simpa using hn)
 have h63' : ¬ (9223372036854775807 : Int) < (l.length : Int) := by omega
 have hmax : IntKind.i64.max = 9223372036854775807 := rfl
 have hneg : ¬ (l.length : Int) < 0 := by omega
 conv => lhs; arg 2; delta Builtin.unsafeString_; whnf
 generalize IntKind.i64.max.decLt (l.length : Int) = d
 cases d with
 | isTrue h => exact absurd h h63'
 | isFalse h => simp [asInt, asIntOf, hmax, h63', hneg, hl, variablesAt, hsh, elemOf, run_underlying hp, hlies, hlb]
theorem unsafeStr_sound {P : Program} {c : Cx} {H H' : Hp} (s : Sim c H) {ts : Array TypeId} {ty : TypeId} {p n v : AV} {A N : Value} (hA : Rel c p A) (hN : Rel c n N) (h : vunsafeStr P H ts p n = some (v, H')) (hts : ts.size = 2) :
 Yields P c H (Builtin.unsafeString_ ts ty #[A, N]) v H' := by
 unfold vunsafeStr at h
 split at h
 · cases h
   cases hA
   cases hN
   match ts, hts with
   | ⟨[pt, it]⟩, _ => exact Yields.same s (Lib.run_unsafeString_none c.w pt it ty none) (.str _)
 · rename_i l i n
   split at h
   · rename_i pt it hts'
     have ets : ts = #[pt, it] := by apply Array.ext'; simpa using hts'
     subst ets
     split at h
     · rename_i e T sz rows hu hl
       split at h
       · rename_i hc
         obtain ⟨c1, c2, rfl, rfl, c5, c6⟩ := hc
         split at h
         · rename_i bs hbs
           split at h
           · rename_i hlen
             cases h
             obtain ⟨b1, b2⟩ := byteRows_get hbs
             cases hN
             cases hA with
             | ptr _ _ _ cl hρ =>
               obtain ⟨cl0, cells, f1, e2, e3, e4, e5, e6, e7⟩ := s.obj l _ hl
               rw [hρ] at f1
               obtain rfl : cl = cl0 := Option.some.inj f1
               have hcell : ∀ j x, bs[j]? = some x → cells[cl.base + i + j]? = some (.int .u8 x.toNat) := fun j x hx => by
                have hr := b2 j x hx
                have hj : j < n.toNat := by have := (List.getElem?_eq_some_iff.1 hx).1; omega
                rw [List.getElem?_take, if_pos hj, List.getElem?_drop] at hr
                obtain ⟨V, v1, v2, v3⟩ := (e7 (i + j) _ hr).2 0 _ rfl
                cases v3
                rw [← v1]
                congr 1
                omega
               have hne : bs ≠ [] := fun h0 => by subst h0; simp at hlen; omega
               have hin : cl.base + i + bs.length ≤ cells.size := by
                have hp : 0 < bs.length := List.length_pos_iff.2 hne
                have := hcell (bs.length - 1) _ (List.getElem?_eq_getElem (by omega))
                have := (Array.getElem?_eq_some_iff.1 this).1
                omega
               have hsh : c.w.shape? cl.blk = some (T, cells.size) := by simp [World.shape?, e3]
               have hoff : cl.base + i * cl.sz + 0 = cl.base + i := by rw [e2]; simp
               have hnn : (bs.length : Int) = n := by omega
               have hrun := run_unsafeString (P := P) c.w pt it ty T hu c5 cl.blk (cl.base + i) cells.size hsh bs hne hin (by omega) (fun j x hx => by
                rw [add_spot, cell_at e3]
                exact hcell j x hx)
               rw [hnn] at hrun
               obtain ⟨fr, g1, g2, g3, g4, g5, g6⟩ : ∃ fr, (c.w.freeze ⟨cl.blk, cl.base + i, none⟩ bs.length).heap[cl.blk]? = some (.cells cells T fr) ∧ (c.w.freeze ⟨cl.blk, cl.base + i, none⟩ bs.length).heap.size = c.w.heap.size ∧
                (∀ b, b ≠ cl.blk → (c.w.freeze ⟨cl.blk, cl.base + i, none⟩ bs.length).heap[b]? = c.w.heap[b]?) ∧ (c.w.freeze ⟨cl.blk, cl.base + i, none⟩ bs.length).os = c.w.os ∧ (c.w.freeze ⟨cl.blk, cl.base + i, none⟩ bs.length).tape = c.w.tape ∧ (c.w.freeze ⟨cl.blk, cl.base + i, none⟩ bs.length).output = c.w.output := by
                have hbl : bs.length ≠ 0 := by simpa using hne
                have hget : ∃ fr, (c.w.freeze ⟨cl.blk, cl.base + i, none⟩ bs.length).heap[cl.blk]? = some (.cells cells T fr) := by
                 simp only [World.freeze, if_neg hbl]
                 rw [Array.getElem?_modify, if_pos rfl, e3]
                 exact ⟨_, rfl⟩
                obtain ⟨fr, hfr⟩ := hget
                refine ⟨fr, hfr, ?_, fun b hb => ?_, ?_, ?_, ?_⟩ <;> simp only [World.freeze, if_neg hbl]
                · simp
                rw [Array.getElem?_modify, if_neg (Ne.symm hb)]
               have T1 := To.freezeW s hl c6 hρ e3 g2 g1 g3 g4 g5 g6
               refine ⟨_, _, ?_, T1, .str _⟩
               rw [hoff]
               exact hrun
           cases h
         cases h
       cases h
     cases h
   cases h
 cases h
end Go.Vi
namespace Go.Vi
abbrev Glob := Nat → Option (List AV)
def ev (G : Glob) (env : List AV) : Operand → Option AV
 | .tmp t => env[t]?
 | .const V => ofV V
 | .global g => (G g).map (.iptr false)
 | .func f => some (.clo f [])
def evL (e : Operand → Option AV) : List Operand → Option (List AV)
 | [] => some []
 | o :: r => match e o, evL e r with
   | some x, some xs => some (x :: xs)
   | _, _ => none
def evP (e : Operand → Option AV) : List (Nat × Operand) → Option (List (Nat × AV))
 | [] => some []
 | (i, o) :: r => match e o, evP e r with
   | some x, some xs => some ((i, x) :: xs)
   | _, _ => none
def evO (e : Operand → Option AV) : Option Operand → Option (Option AV)
 | none => some none
 | some o => (e o).map some
def EnvR (c : Cx) (env : List AV) (tmps : Array Value) : Prop :=
 env.length = tmps.size ∧ ∀ (t : Nat) (x : AV) (V : Value), env[t]? = some x → tmps[t]? = some V → Rel c x V
def GOK (c : Cx) (G : Glob) : Prop := ∀ g cs, G g = some cs → Rel c (.iptr false cs) (.pointer (some ⟨g, 0, none⟩))
theorem EnvR.mono {c c' : Cx} (m : Mono c c') {env : List AV} {tmps : Array Value} (h : EnvR c env tmps) : EnvR c' env tmps := ⟨h.1, fun t x V hx hV => (h.2 t x V hx hV).mono m⟩
theorem GOK.mono {c c' : Cx} (m : Mono c c') {G : Glob} (h : GOK c G) : GOK c' G := fun g cs hg => (h g cs hg).mono m
def OpR (c : Cx) (e : Operand → Option AV) (ρ : Operand → Value) : Prop := ∀ o x, e o = some x → Rel c x (ρ o)
theorem ev_sound {c : Cx} {G : Glob} {env : List AV} {a : Act} (h : EnvR c env a.tmps) (hg : GOK c G) : OpR c (ev G env) a.eval := by
 intro o x hx
 cases o with
 | tmp t =>
   have ht := (List.getElem?_eq_some_iff.1 hx).1
   have htt : t < a.tmps.size := by rw [← h.1]; exact ht
   have hV : a.tmps[t]? = some a.tmps[t] := Array.getElem?_eq_getElem htt
   have := h.2 t x _ hx hV
   simpa [Act.eval, Array.getD_eq_getD_getElem?, hV] using this
 | const V => exact ofV_rel hx
 | global g =>
   simp only [ev] at hx
   cases hG : G g with
   | none => rw [hG] at hx; cases hx
   | some cs => rw [hG] at hx; cases hx; exact hg g cs hG
 | func f => cases hx; exact .clo f [] #[] rfl (fun j x V hx => by cases hx)
theorem evP_sound {c : Cx} {e : Operand → Option AV} {ρ : Operand → Value} (h : OpR c e ρ) : ∀ {l : List (Nat × Operand)} {xs : List (Nat × AV)}, evP e l = some xs → PartsR c xs (l.map fun p => (p.1, ρ p.2))
 | [], xs, hx => by cases hx; exact .nil
 | (i, o) :: r, xs, hx => by
   unfold evP at hx
   split at hx
   · rename_i x ys h1 h2
     cases hx
     exact .cons (h o x h1) (evP_sound h h2)
   cases hx
theorem evL_sound {c : Cx} {e : Operand → Option AV} {ρ : Operand → Value} (h : OpR c e ρ) : ∀ {l : List Operand} {xs : List AV}, evL e l = some xs → xs.length = l.length ∧ ∀ (j : Nat) (x : AV) (V : Value), xs[j]? = some x → (l.map ρ)[j]? = some V → Rel c x V
 | [], xs, hx => by cases hx; exact ⟨rfl, fun j x V hx => by cases hx⟩
 | o :: r, xs, hx => by
   unfold evL at hx
   split at hx
   · rename_i x ys h1 h2
     cases hx
     obtain ⟨i1, i2⟩ := evL_sound h h2
     refine ⟨by simp [i1], fun j y V hy hV => ?_⟩
     cases j with
     | zero => simp at hy hV; subst hy; subst hV; exact h o x h1
     | succ j => exact i2 j y V (by simpa using hy) (by simpa using hV)
   cases hx
theorem evO_sound {c : Cx} {e : Operand → Option AV} {ρ : Operand → Value} (h : OpR c e ρ) {o : Option Operand} {x : Option AV} (hx : evO e o = some x) : RelO c x (o.map ρ) := by
 cases o with
 | none => cases hx; trivial
 | some o =>
   simp only [evO] at hx
   cases he : e o with
   | none => rw [he] at hx; cases hx
   | some v => rw [he] at hx; cases hx; exact h o v he
def AV.notNil : AV → Bool
 | .ptr .. | .iptr .. | .clo .. | .mapr _ | .row .. | .list .. | .iface .. => true
 | _ => false
def vmax2 (big : Bool) : AV → AV → Option AV
 | .int k x, .int k' y => if k = k' then some (.int k (if big then (if y > x then y else x) else (if y < x then y else x))) else none
 | _, _ => none
def vbuiltin (P : Program) (H : Hp) (b : Builtin) (ts : Array TypeId) (args : List AV) : Option (AV × Hp) :=
 match b, args with
 | .len, [x] => match ts[0]? with
   | some t => (vlen P H t x).map (·, H)
   | none => none
 | .append, [s, x] => match ts.toList with
   | [t, t2] => vappend P H t t2 s x
   | _ => none
 | .copy, [d, x] => match ts.toList with
   | [t, _] => vcopy P H t d x
   | _ => none
 | .max, [x, y] => (vmax2 true x y).map (·, H)
 | .min, [x, y] => (vmax2 false x y).map (·, H)
 | .unsafeSliceData, [x] => (vsliceData x).map (·, H)
 | .unsafeString, [p, n] => if ts.size = 2 then vunsafeStr P H ts p n else none
 | _, _ => none
def orX (a b : Option AV) : Option AV :=
 match a with
 | some z => some z
 | none => b
def vexec (P : Program) (e : Operand → Option AV) (H : Hp) (o : Oper) : Option (AV × Hp) :=
 match o.op with
 | .move x | .assign x => (e x).map (·, H)
 | .pick c a b => match e c with
   | some (.bool true) => (e a).map (·, H)
   | some (.bool false) => (e b).map (·, H)
   | _ => none
 | .alloc t => valloc P H t
 | .box t x => (e x).bind (vbox H t)
 | .build t parts => match evP e parts.toList with
   | some ps => (vbuild P t ps).map (·, H)
   | none => none
 | .buildSlice t len parts => match evP e parts.toList with
   | some ps => vbuildSlice P H t len ps
   | none => none
 | .load t a => match e a with
   | some p => (vload P H t p).map (·, H)
   | none => none
 | .store t a x => match e a, e x with
   | some p, some v => (vstore P H t p v).map (.tup [], ·)
   | _, _ => none
 | .nilCheck x => match e x with
   | some v => if v.notNil then some (v, H) else none
   | none => none
 | .binOp op t x y _ => match e x, e y with
   | some a, some b => (orX (vbin P op t a b) (vbinX P op t a b)).map (·, H)
   | _, _ => none
 | .unOp op _ x => match e x with
   | some a => (vun op a).map (·, H)
   | none => none
 | .convert src dst x => match e x with
   | some a => (orX (vconv P H src dst a) (vconvX P H src dst a)).map (·, H)
   | none => none
 | .makeFunc (.func f) first captured => if first.size = 0 then match evL e captured.toList with
  | some cs => some (.clo f cs, H)
  | none => none
   else none
 | .makeSlice t l c => match e l, e c with
   | some a, some b => vmake P H t a b
   | _, _ => none
 | .slice t x lo hi mx => match e x, evO e lo, evO e hi, evO e mx with
   | some v, some l, some h, some m => (vslice P H t v l h m).map (·, H)
   | _, _, _, _ => none
 | .fieldAddr s x f => match e x with
   | some v => (vfield P s f v).map (·, H)
   | none => none
 | .field t x f => match e x with
   | some v => (vfieldOf P t f v).map (·, H)
   | none => none
 | .indexAddr t x ix => match e x, e ix with
   | some v, some i => (vindexAddr P H t v i).map (·, H)
   | _, _ => none
 | .index t x ix => match e x, e ix with
   | some v, some i => (vindex P t v i).map (·, H)
   | _, _ => none
 | .extract t i => match e t with
   | some v => (vextract v i).map (·, H)
   | none => none
 | .call { callee := .builtin b, args, argTypes } => match evL e args.toList with
   | some xs => vbuiltin P H b argTypes xs
   | none => none
 | _ => none
def Ran (P : Program) (c : Cx) (H : Hp) (ρ : Operand → Value) (o : Oper) (v : AV) (H' : Hp) : Prop :=
 ∃ V c', ((execOp ρ o).run P c.w = .ok (.value V) c'.w ∨ ((execOp ρ o).run P c.w = .ok .skip c'.w ∧ V = undef)) ∧ To c H c' H' ∧ Rel c' v V
theorem Ran.of_yields {P : Program} {c : Cx} {H H' : Hp} {ρ : Operand → Value} {o : Oper} {v : AV} {s : Sem Value} (h : Yields P c H s v H') (he : execOp ρ o = (do pure (.value (← s)))) : Ran P c H ρ o v H' := by
 obtain ⟨V, c', h1, h2, h3⟩ := h
 exact ⟨V, c', .inl (by rw [he]; simp [h1]), h2, h3⟩
theorem Ran.of_same {P : Program} {c : Cx} {H : Hp} (s : Sim c H) {ρ : Operand → Value} {o : Oper} {v : AV} {e : Sem Value} (h : ∃ V, e.run P c.w = .ok V c.w ∧ Rel c v V) (he : execOp ρ o = (do pure (.value (← e)))) : Ran P c H ρ o v H := by
 obtain ⟨V, h1, h2⟩ := h
 exact Ran.of_yields (Yields.same s h1 h2) he
theorem max2_sound {P : Program} {c : Cx} {big : Bool} {x y v : AV} {X Y : Value} (hX : Rel c x X) (hY : Rel c y Y) (h : vmax2 big x y = some v) (ts : Array TypeId) (ty : TypeId) :
 ∃ V, ((if big then Builtin.max_ ts ty #[X, Y] else Builtin.min_ ts ty #[X, Y]) : Sem Value).run P c.w = .ok V c.w ∧ Rel c v V := by
 unfold vmax2 at h
 split at h
 · rename_i k a k' b
   split at h
   · rename_i e
     subst e
     cases h
     cases hX
     cases hY
     cases big
     · exact ⟨_, rfl, .int _ _⟩
     exact ⟨_, rfl, .int _ _⟩
   cases h
 cases h
theorem builtin_sound {P : Program} {c : Cx} {H H' : Hp} (s : Sim c H) {b : Builtin} {ts : Array TypeId} {ty : TypeId} {cs : Array Bool} {args : List AV} {Vs : List Value} {v : AV} (hl : args.length = Vs.length)
 (ha : ∀ (j : Nat) (x : AV) (V : Value), args[j]? = some x → Vs[j]? = some V → Rel c x V) (h : vbuiltin P H b ts args = some (v, H')) :
 ∃ e : Sem Value, builtin b ts ty cs Vs.toArray = (do pure (.value (← e))) ∧ Yields P c H e v H' := by
 unfold vbuiltin at h
 split at h
 · rename_i x
   split at h
   · rename_i t ht
     cases hv : vlen P H t x with
     | none => rw [hv] at h; cases h
     | some y =>
       rw [hv] at h
       cases h
       match Vs, hl with
       | [V], _ =>
         obtain ⟨W, h1, h2⟩ := len_sound (ts := ts) (ty := ty) s ht (ha 0 x V rfl rfl) hv
         exact ⟨_, rfl, Yields.same s h1 h2⟩
   cases h
 · rename_i a x
   split at h
   · rename_i t t2 ht
     match Vs, hl with
     | [A, X], _ =>
       have e : ts = #[t, t2] := by apply Array.ext'; simpa using ht
       subst e
       exact ⟨_, rfl, append_sound s (ha 0 a A rfl rfl) (ha 1 x X rfl rfl) h⟩
   cases h
 · rename_i d x
   split at h
   · rename_i t t2 ht
     match Vs, hl with
     | [D, X], _ =>
       have e : ts = #[t, t2] := by apply Array.ext'; simpa using ht
       subst e
       exact ⟨_, rfl, copy_sound s (ha 0 d D rfl rfl) (ha 1 x X rfl rfl) h⟩
   cases h
 · rename_i x y
   cases hv : vmax2 true x y with
   | none => rw [hv] at h; cases h
   | some z =>
     rw [hv] at h
     cases h
     match Vs, hl with
     | [X, Y], _ =>
       obtain ⟨W, h1, h2⟩ := max2_sound (P := P) (ha 0 x X rfl rfl) (ha 1 y Y rfl rfl) hv ts ty
       exact ⟨_, rfl, Yields.same s h1 h2⟩
 · rename_i x y
   cases hv : vmax2 false x y with
   | none => rw [hv] at h; cases h
   | some z =>
     rw [hv] at h
     cases h
     match Vs, hl with
     | [X, Y], _ =>
       obtain ⟨W, h1, h2⟩ := max2_sound (P := P) (ha 0 x X rfl rfl) (ha 1 y Y rfl rfl) hv ts ty
       exact ⟨_, rfl, Yields.same s h1 h2⟩
 · rename_i x
   cases hv : vsliceData x with
   | none => rw [hv] at h; cases h
   | some z =>
     rw [hv] at h
     cases h
     match Vs, hl with
     | [X], _ =>
       obtain ⟨W, h1, h2⟩ := sliceData_sound (P := P) (ts := ts) (ty := ty) (ha 0 x X rfl rfl) hv
       exact ⟨_, rfl, Yields.same s h1 h2⟩
 · rename_i p n
   split at h
   · rename_i hts
     match Vs, hl with
     | [A, N], _ => exact ⟨_, rfl, unsafeStr_sound s (ha 0 p A rfl rfl) (ha 1 n N rfl rfl) h hts⟩
   cases h
 cases h
theorem map_some {α β : Type} {x : Option α} {f : α → β} {y : β} (h : x.map f = some y) : ∃ a, x = some a ∧ f a = y := by
 cases x with
 | none => cases h
 | some a => exact ⟨a, rfl, by simpa using h⟩
set_option maxHeartbeats 2000000 in
theorem exec_sound {P : Program} {c : Cx} {H H' : Hp} (s : Sim c H) {e : Operand → Option AV} {ρ : Operand → Value} (he : OpR c e ρ) {o : Oper} {v : AV} (h : vexec P e H o = some (v, H')) : Ran P c H ρ o v H' := by
 obtain ⟨dst, op, type, pos, after, guard⟩ := o
 have val : ∀ x V, (execOp ρ ⟨dst, op, type, pos, after, guard⟩) = pure (.value V) → Rel c x V → Ran P c H ρ ⟨dst, op, type, pos, after, guard⟩ x H := fun x V hx hr =>
  ⟨V, c, .inl (by rw [hx]; rfl), To.refl s, hr⟩
 cases op with
 | move x =>
   obtain ⟨y, h1, h2⟩ := map_some h
   cases h2
   exact val _ _ rfl (he x _ h1)
 | assign x =>
   obtain ⟨y, h1, h2⟩ := map_some h
   cases h2
   exact val _ _ rfl (he x _ h1)
 | pick cd a b =>
   simp only [vexec] at h
   split at h
   · rename_i hc
     obtain ⟨y, h1, h2⟩ := map_some h
     cases h2
     have hcv := he cd _ hc
     refine ⟨ρ a, c, .inl ?_, To.refl s, he a _ h1⟩
     generalize hρ : ρ cd = C at hcv
     cases hcv
     simp [execOp, hρ, asBool]
   · rename_i hc
     obtain ⟨y, h1, h2⟩ := map_some h
     cases h2
     have hcv := he cd _ hc
     refine ⟨ρ b, c, .inl ?_, To.refl s, he b _ h1⟩
     generalize hρ : ρ cd = C at hcv
     cases hcv
     simp [execOp, hρ, asBool]
   cases h
 | alloc t => exact Ran.of_yields (alloc_sound s h) rfl
 | box t x =>
   simp only [vexec] at h
   cases hx : e x with
   | none => rw [hx] at h; cases h
   | some y => rw [hx] at h; exact Ran.of_yields (box_sound s (he x y hx) h) rfl
 | build t parts =>
   simp only [vexec] at h
   split at h
   · rename_i ps hp
     obtain ⟨y, h1, h2⟩ := map_some h
     cases h2
     exact Ran.of_same s (build_sound (PS := parts.map fun p => (p.1, ρ p.2)) (by have := evP_sound he hp; simpa using this) h1) rfl
   cases h
 | buildSlice t len parts =>
   simp only [vexec] at h
   split at h
   · rename_i ps hp
     exact Ran.of_yields (buildSlice_sound (PS := parts.map fun p => (p.1, ρ p.2)) s (by have := evP_sound he hp; simpa using this) h) rfl
   cases h
 | load t a =>
   simp only [vexec] at h
   split at h
   · rename_i p hp
     obtain ⟨y, h1, h2⟩ := map_some h
     cases h2
     exact Ran.of_same s (load_sound s (he a p hp) h1) rfl
   cases h
 | store t a x =>
   simp only [vexec] at h
   split at h
   · rename_i p y hp hy
     obtain ⟨H2, h1, h2⟩ := map_some h
     cases h2
     obtain ⟨c', r1, r2⟩ := store_sound (P := P) s (he a p hp) (he x y hy) h1
     refine ⟨undef, c', .inr ⟨?_, rfl⟩, r2, .tup [] #[] rfl (fun j x V hx => by cases hx)⟩
     show ((do Instr.storeAt t (ρ a) (ρ x); pure Next.skip : Sem Next)).run P c.w = _
     rw [Sem.run_bind, r1]
     rfl
   cases h
 | nilCheck x =>
   simp only [vexec] at h
   split at h
   · rename_i y hy
     split at h
     · rename_i hn
       cases h
       have hr := he x _ hy
       refine ⟨ρ x, c, .inl ?_, To.refl s, hr⟩
       generalize hρ : ρ x = X at hr
       cases hr <;> first | (cases hn; done) | (simp [execOp, hρ]; done)
     cases h
   cases h
 | binOp op t x y yt =>
   simp only [vexec] at h
   split at h
   · rename_i a b ha hb
     obtain ⟨z, h1, h2⟩ := map_some h
     cases h2
     cases hv : vbin P op t a b with
     | some w =>
       rw [hv] at h1
       cases h1
       exact Ran.of_same s (bin_sound x y (he x a ha) (he y b hb) hv) rfl
     | none =>
       rw [hv] at h1
       exact Ran.of_same s (binX_sound x y (he x a ha) (he y b hb) h1) rfl
   cases h
 | unOp op t x =>
   simp only [vexec] at h
   split at h
   · rename_i a ha
     obtain ⟨z, h1, h2⟩ := map_some h
     cases h2
     exact Ran.of_same s (un_sound (he x a ha) h1) rfl
   cases h
 | convert src dst' x =>
   simp only [vexec] at h
   split at h
   · rename_i a ha
     obtain ⟨z, h1, h2⟩ := map_some h
     cases h2
     cases hv : vconv P H src dst' a with
     | some w =>
       rw [hv] at h1
       cases h1
       exact Ran.of_yields (conv_sound s (he x a ha) hv) rfl
     | none =>
       rw [hv] at h1
       exact Ran.of_yields (convX_sound s (he x a ha) h1) rfl
   cases h
 | makeFunc fn first captured =>
   cases fn with
   | func f =>
     simp only [vexec] at h
     split at h
     · rename_i h0
       split at h
       · rename_i cs hcs
         cases h
         obtain ⟨l1, l2⟩ := evL_sound he hcs
         refine val _ (.func (.func f) #[] (captured.map ρ)) ?_ (.clo f cs _ (by simpa using l1) (fun j x V hx hV => l2 j x V hx (by simpa using hV)))
         have hf : first = #[] := Array.eq_empty_of_size_eq_zero h0
         subst hf
         simp [execOp, Instr.makeFunc]
       cases h
     cases h
   | _ => cases h
 | makeSlice t l cp =>
   simp only [vexec] at h
   split at h
   · rename_i a b ha hb
     exact Ran.of_yields (make_sound s (he l a ha) (he cp b hb) h) rfl
   cases h
 | slice t x lo hi mx =>
   simp only [vexec] at h
   split at h
   · rename_i a l hh m ha hl hhi hm
     obtain ⟨z, h1, h2⟩ := map_some h
     cases h2
     exact Ran.of_same s (slice_sound s (he x a ha) (evO_sound he hl) (evO_sound he hhi) (evO_sound he hm) h1) rfl
   cases h
 | fieldAddr st x f =>
   simp only [vexec] at h
   split at h
   · rename_i a ha
     obtain ⟨z, h1, h2⟩ := map_some h
     cases h2
     exact Ran.of_same s (field_sound (he x a ha) h1) rfl
   cases h
 | field t x f =>
   simp only [vexec] at h
   split at h
   · rename_i a ha
     obtain ⟨z, h1, h2⟩ := map_some h
     cases h2
     exact Ran.of_same s (fieldOf_sound (he x a ha) h1) rfl
   cases h
 | indexAddr t x ix =>
   simp only [vexec] at h
   split at h
   · rename_i a b ha hb
     obtain ⟨z, h1, h2⟩ := map_some h
     cases h2
     exact Ran.of_same s (indexAddr_sound s (he x a ha) (he ix b hb) h1) rfl
   cases h
 | index t x ix =>
   simp only [vexec] at h
   split at h
   · rename_i a b ha hb
     obtain ⟨z, h1, h2⟩ := map_some h
     cases h2
     exact Ran.of_same s (index_sound (he x a ha) (he ix b hb) h1) rfl
   cases h
 | extract t i =>
   simp only [vexec] at h
   split at h
   · rename_i a ha
     obtain ⟨z, h1, h2⟩ := map_some h
     cases h2
     exact Ran.of_same s (extract_sound (he t a ha) h1) rfl
   cases h
 | call cl =>
   obtain ⟨callee, args, ts⟩ := cl
   cases callee with
   | builtin b =>
     simp only [vexec] at h
     split at h
     · rename_i xs hxs
       obtain ⟨l1, l2⟩ := evL_sound he hxs
       obtain ⟨e', h1, h2⟩ := builtin_sound (ty := type) (cs := args.map fun | .const _ => true | _ => false) s (Vs := args.toList.map ρ) (by simpa using l1) l2 h
       refine Ran.of_yields h2 ?_
       rw [← h1]
       simp only [execOp, resolve, pure_bind, invoke]
       congr 1
       apply Array.ext'
       simp
     cases h
   | _ => cases h
 | _ => cases h
end Go.Vi
