/- The value machine: what its values and its heap say of the model's values and worlds. -/
import Derived.Test.YtfmmcafccijnhaaVmC
import Derived.Below
namespace Go.Vm
open Go.RowKit

structure Loc where
  blk : Nat
  base : Nat
  es : Nat
  cap : Nat

abbrev MapT := Nat → Option (Nat × Loc)

/-- What is only read: a value of the model reads so in the world's blocks F. -/
inductive PRep (nm : Nat → Option Nat) (w : World) (F : Nat → Prop) : Value → AV → Prop
  | int (k : IntKind) (n : Int) : PRep nm w F (.int k n) (.int k n)
  | bool (b : Bool) : PRep nm w F (.bool b) (.bool b)
  | str (s : ByteArray) : PRep nm w F (.string s) (.str s.data.toList)
  | nilp : PRep nm w F (.pointer none) .nilp
  | nils : PRep nm w F (.slice none 0 0) .nils
  | nilm : PRep nm w F (.map none) .nilm
  | rp (a : Addr) (cs : List AV) (f : Nat → Value) (hs : a.spot = none)
      (hc : ∀ j l, cs[j]? = some l → F a.block ∧ leaf1 l = true ∧ w.cell? ⟨a.block, a.off + j, none⟩ = some (f j))
      (hr : ∀ j l, cs[j]? = some l → PRep nm w F (f j) l) : PRep nm w F (.pointer (some a)) (.rp cs)
  | rs (a : Addr) (cap es : Nat) (rows : List (List AV)) (f : Nat → Nat → Value) (hs : rows ≠ [] → a.spot = none) (hcap : rows.length ≤ cap)
      (hes : ∀ (i : Nat) (row : List AV), rows[i]? = some row → row.length = es)
      (hc : ∀ (i : Nat) (row : List AV) (j : Nat) (l : AV), rows[i]? = some row → row[j]? = some l →
        F a.block ∧ leaf1 l = true ∧ w.cell? ⟨a.block, a.off + (i * es + j), none⟩ = some (f i j))
      (hr : ∀ (i : Nat) (row : List AV) (j : Nat) (l : AV), rows[i]? = some row → row[j]? = some l → PRep nm w F (f i j) l) :
      PRep nm w F (.slice (some a) rows.length cap) (.rs es rows)
  | rm (r : Nat) (mes : Array MapEntry) (clock : Nat) (es : List (AV × AV)) (hF : F r) (hh : w.heap[r]? = some (.map mes clock)) (hn : mes.size = es.length)
      (hk : ∀ (i : Nat) (e : MapEntry) (p : AV × AV), mes[i]? = some e → es[i]? = some p → PRep nm w F e.key p.1)
      (hv : ∀ (i : Nat) (e : MapEntry) (p : AV × AV), mes[i]? = some e → es[i]? = some p → PRep nm w F e.val p.2) : PRep nm w F (.map (some r)) (.rm es)
  | agg (vs : Array Value) (cs : List AV) (hn : vs.size = cs.length)
      (hr : ∀ (j : Nat) (v : Value) (l : AV), vs[j]? = some v → cs[j]? = some l → PRep nm w F v l) : PRep nm w F (.agg vs) (.agg cs)
  | tup (vs : Array Value) (cs : List AV) (hn : vs.size = cs.length)
      (hr : ∀ (j : Nat) (v : Value) (l : AV), vs[j]? = some v → cs[j]? = some l → PRep nm w F v l) : PRep nm w F (.tuple vs) (.tup cs)
  | fn (f key : Nat) (h : nm f = some key) : PRep nm w F (.func (.func f) #[] #[]) (.fn key [])

/-- A value of the model is told by one of the machine: 'm' tells where each object lies, 'G' its generation. -/
inductive Rep (nm : Nat → Option Nat) (w : World) (F : Nat → Prop) (m : MapT) (G : List Nat) : Value → AV → Prop
  | pure {v : Value} {a : AV} (h : PRep nm w F v a) : Rep nm w F m G v a
  | undef (v : Value) : Rep nm w F m G v .undef
  | lp (id g i off : Nat) (loc : Loc) (hg : ∃ g0, G[id]? = some g0 ∧ g ≤ g0) (h : ∀ loc', m id = some (g, loc') → loc' = loc) :
      Rep nm w F m G (.pointer (some ⟨loc.blk, loc.base + i * loc.es + off, none⟩)) (.lp id g i off)
  | ls (id g es off len cap : Nat) (a : Addr) (loc : Loc) (hg : ∃ g0, G[id]? = some g0 ∧ g ≤ g0) (h : ∀ loc', m id = some (g, loc') → loc' = loc)
      (hb : a.block = loc.blk) (hs : a.spot = none) (he : loc.es = es) (ho : 0 < cap → a.off = loc.base + off * loc.es) (hc : off + cap ≤ loc.cap) (hl : len ≤ cap) :
      Rep nm w F m G (.slice (some a) len cap) (.ls id g es off len)
  | lm (id g : Nat) (loc : Loc) (hg : ∃ g0, G[id]? = some g0 ∧ g ≤ g0) (h : ∀ loc', m id = some (g, loc') → loc' = loc) :
      Rep nm w F m G (.map (some loc.blk)) (.lm id g)
  | agg (vs : Array Value) (cs : List AV) (hn : vs.size = cs.length)
      (hr : ∀ (j : Nat) (v : Value) (l : AV), vs[j]? = some v → cs[j]? = some l → Rep nm w F m G v l) : Rep nm w F m G (.agg vs) (.agg cs)
  | tup (vs : Array Value) (cs : List AV) (hn : vs.size = cs.length)
      (hr : ∀ (j : Nat) (v : Value) (l : AV), vs[j]? = some v → cs[j]? = some l → Rep nm w F m G v l) : Rep nm w F m G (.tuple vs) (.tup cs)
  | fn (f key : Nat) (caps : Array Value) (cs : List AV) (h : nm f = some key) (hn : caps.size = cs.length)
      (hr : ∀ (j : Nat) (v : Value) (l : AV), caps[j]? = some v → cs[j]? = some l → Rep nm w F m G v l) : Rep nm w F m G (.func (.func f) #[] caps) (.fn key cs)

def frOk (fr : Nat × Nat) (n : Nat) : Prop := ∀ x, x < n → ¬ (fr.1 ≤ x ∧ x < fr.2)

def gens (h : Heap) : List Nat := h.map (·.gen)

/-- An object's content, at its place. -/
def OCRep (nm : Nat → Option Nat) (w : World) (F : Nat → Prop) (m : MapT) (G : List Nat) (loc : Loc) : OC → Prop
  | .dead => False
  | .arr _ _ es rows => loc.es = es ∧ ∃ cs ty fr, w.heap[loc.blk]? = some (.cells cs ty fr) ∧ frOk fr cs.size ∧ loc.base + loc.cap * es ≤ cs.size ∧ rows.length ≤ loc.cap ∧
      ∀ (i : Nat) (row : List AV), rows[i]? = some row → row.length = es ∧ ∀ (j : Nat) (l : AV), row[j]? = some l →
        leaf1 l = true ∧ ∃ v, cs[loc.base + (i * es + j)]? = some v ∧ Rep nm w F m G v l
  | .map _ es => ∃ mes clock, w.heap[loc.blk]? = some (.map mes clock) ∧ mes.size = es.length ∧
      ∀ (i : Nat) (e : MapEntry) (p : AV × AV), mes[i]? = some e → es[i]? = some p → Rep nm w F m G e.key p.1 ∧ Rep nm w F m G e.val p.2

def OC.fz : OC → Bool
  | .arr _ fz _ _ => fz
  | .map fz _ => fz
  | .dead => false

def OC.isDead : OC → Bool
  | .dead => true
  | _ => false

structure Inv (nm : Nat → Option Nat) (w : World) (F : Nat → Prop) (m : MapT) (h : Heap) : Prop where
  live : ∀ id g loc, m id = some (g, loc) → ∃ o, h[id]? = some ⟨g, o⟩ ∧ OCRep nm w F m (gens h) loc o
  has : ∀ id g o, h[id]? = some ⟨g, o⟩ → o.isDead = false → ∃ loc, m id = some (g, loc)
  inj : ∀ id g loc id' g' loc', m id = some (g, loc) → m id' = some (g', loc') → loc.blk = loc'.blk → id = id'
  fz : ∀ id g loc o, m id = some (g, loc) → h[id]? = some ⟨g, o⟩ → (o.fz = true ↔ F loc.blk)
  bd : ∀ b, F b → b < w.heap.size

def owned (m : MapT) (b : Nat) : Prop := ∃ id g loc, m id = some (g, loc) ∧ loc.blk = b

/-- What a step leaves as it was, and where what is new may lie. -/
structure Tr (w : World) (F : Nat → Prop) (m : MapT) (G : List Nat) (w' : World) (F' : Nat → Prop) (m' : MapT) (G' : List Nat) : Prop where
  os : w'.os = w.os
  tape : w'.tape = w.tape
  output : w'.output = w.output
  size : w.heap.size ≤ w'.heap.size
  sub : ∀ b, F b → F' b
  same : ∀ b, b < w.heap.size → (¬ owned m b ∨ F b) → w'.heap[b]? = w.heap[b]?
  own : ∀ b, owned m' b → owned m b ∨ w.heap.size ≤ b
  new : ∀ b, F' b → F b ∨ owned m b ∨ w.heap.size ≤ b
  gl : ∀ (id g : Nat), G[id]? = some g → ∃ g' : Nat, G'[id]? = some g' ∧ g ≤ g'
  mp : ∀ (id g g0 : Nat) (loc : Loc), m' id = some (g, loc) → G[id]? = some g0 → g ≤ g0 → m id = some (g, loc)

theorem Tr.refl (w : World) (F : Nat → Prop) (m : MapT) (G : List Nat) : Tr w F m G w F m G :=
  ⟨rfl, rfl, rfl, Nat.le_refl _, fun _ h => h, fun _ _ _ => rfl, fun _ h => .inl h, fun _ h => .inl h, fun _ g h => ⟨g, h, Nat.le_refl _⟩, fun _ _ _ _ h _ _ => h⟩

theorem Tr.trans {w w1 w2 : World} {F F1 F2 : Nat → Prop} {m m1 m2 : MapT} {G G1 G2 : List Nat} (h : Tr w F m G w1 F1 m1 G1) (k : Tr w1 F1 m1 G1 w2 F2 m2 G2) : Tr w F m G w2 F2 m2 G2 where
  os := k.os.trans h.os
  tape := k.tape.trans h.tape
  output := k.output.trans h.output
  size := Nat.le_trans h.size k.size
  sub b hb := k.sub b (h.sub b hb)
  same b hb hc := by
    rw [k.same b (Nat.lt_of_lt_of_le hb h.size) ?_, h.same b hb hc]
    rcases hc with hc | hc
    · refine .inl fun ho => ?_
      rcases h.own b ho with ho | ho
      · exact hc ho
      · omega
    · exact .inr (h.sub b hc)
  own b hb := by
    rcases k.own b hb with hb | hb
    · exact h.own b hb
    · exact .inr (Nat.le_trans h.size hb)
  new b hb := by
    rcases k.new b hb with hb | hb | hb
    · exact h.new b hb
    · rcases h.own b hb with hb | hb
      · exact .inr (.inl hb)
      · exact .inr (.inr hb)
    · exact .inr (.inr (Nat.le_trans h.size hb))
  gl id g hg := by
    obtain ⟨g1, h1, l1⟩ := h.gl id g hg
    obtain ⟨g2, h2, l2⟩ := k.gl id g1 h1
    exact ⟨g2, h2, Nat.le_trans l1 l2⟩
  mp id g g0 loc hm hg hl := by
    obtain ⟨g1, h1, l1⟩ := h.gl id g0 hg
    exact h.mp id g g0 loc (k.mp id g g1 loc hm h1 (Nat.le_trans hl l1)) hg hl

variable {nm : Nat → Option Nat}

theorem cell_of_block {w w' : World} {b : Nat} (h : w'.heap[b]? = w.heap[b]?) (o : Nat) : w'.cell? ⟨b, o, none⟩ = w.cell? ⟨b, o, none⟩ := by
  simp only [World.cell?, h]

/-- What is only read reads the same where its blocks are the same. -/
theorem PRep.mono {w w' : World} {F F' : Nat → Prop} {v : Value} {a : AV} (h : PRep nm w F v a) (hw : ∀ b, F b → w'.heap[b]? = w.heap[b]?) (hF : ∀ b, F b → F' b) : PRep nm w' F' v a := by
  induction h with
  | int k n => exact .int k n
  | bool b => exact .bool b
  | str s => exact .str s
  | nilp => exact .nilp
  | nils => exact .nils
  | nilm => exact .nilm
  | rp a cs f hs hc hr ih =>
    refine .rp a cs f hs (fun j l hl => ?_) ih
    obtain ⟨h1, h2, h3⟩ := hc j l hl
    exact ⟨hF _ h1, h2, by rw [cell_of_block (hw _ h1)]; exact h3⟩
  | rs a cap es rows f hs hcap hes hc hr ih =>
    refine .rs a cap es rows f hs hcap hes (fun i row j l hi hl => ?_) ih
    obtain ⟨h1, h2, h3⟩ := hc i row j l hi hl
    exact ⟨hF _ h1, h2, by rw [cell_of_block (hw _ h1)]; exact h3⟩
  | rm r mes clock es hFr hh hn hk hv ihk ihv => exact .rm r mes clock es (hF _ hFr) (by rw [hw _ hFr]; exact hh) hn ihk ihv
  | agg vs cs hn hr ih => exact .agg vs cs hn ih
  | tup vs cs hn hr ih => exact .tup vs cs hn ih
  | fn f key h => exact .fn f key h

theorem Rep.mono {w w' : World} {F F' : Nat → Prop} {m m' : MapT} {G G' : List Nat} {v : Value} {a : AV} (h : Rep nm w F m G v a)
    (hw : ∀ b, F b → w'.heap[b]? = w.heap[b]?) (hF : ∀ b, F b → F' b) (hG : ∀ (id g : Nat), G[id]? = some g → ∃ g' : Nat, G'[id]? = some g' ∧ g ≤ g')
    (hm : ∀ (id g g0 : Nat) (loc : Loc), m' id = some (g, loc) → G[id]? = some g0 → g ≤ g0 → m id = some (g, loc)) : Rep nm w' F' m' G' v a := by
  have hg' : ∀ id g : Nat, (∃ g0 : Nat, G[id]? = some g0 ∧ g ≤ g0) → ∃ g0 : Nat, G'[id]? = some g0 ∧ g ≤ g0 := fun id g ⟨g0, h1, h2⟩ => by
    obtain ⟨g1, h3, h4⟩ := hG id g0 h1
    exact ⟨g1, h3, Nat.le_trans h2 h4⟩
  induction h with
  | pure h => exact .pure (h.mono hw hF)
  | undef v => exact .undef v
  | lp id g i off loc hg h =>
    obtain ⟨g0, h1, h2⟩ := hg
    exact .lp id g i off loc (hg' _ _ ⟨g0, h1, h2⟩) fun loc' hl => h loc' (hm id g g0 loc' hl h1 h2)
  | ls id g es off len cap a loc hg h hb hs he ho hc hl =>
    obtain ⟨g0, h1, h2⟩ := hg
    exact .ls id g es off len cap a loc (hg' _ _ ⟨g0, h1, h2⟩) (fun loc' hl => h loc' (hm id g g0 loc' hl h1 h2)) hb hs he ho hc hl
  | lm id g loc hg h =>
    obtain ⟨g0, h1, h2⟩ := hg
    exact .lm id g loc (hg' _ _ ⟨g0, h1, h2⟩) fun loc' hl => h loc' (hm id g g0 loc' hl h1 h2)
  | agg vs cs hn hr ih => exact .agg vs cs hn ih
  | tup vs cs hn hr ih => exact .tup vs cs hn ih
  | fn f key caps cs h hn hr ih => exact .fn f key caps cs h hn ih

theorem Inv.blk_lt {w : World} {F : Nat → Prop} {m : MapT} {h : Heap} (I : Inv nm w F m h) {id g : Nat} {loc : Loc} (hm : m id = some (g, loc)) : loc.blk < w.heap.size := by
  obtain ⟨o, _, ho⟩ := I.live id g loc hm
  have key : ∀ x, w.heap[loc.blk]? = some x → loc.blk < w.heap.size := fun x hx => (Array.getElem?_eq_some_iff.1 hx).1
  cases o with
  | dead => exact ho.elim
  | arr bx fz es rows => obtain ⟨_, cs, ty, fr, hb, _⟩ := ho; exact key _ hb
  | map fz es => obtain ⟨mes, clock, hb, _⟩ := ho; exact key _ hb

theorem Rep.tr {w w' : World} {F F' : Nat → Prop} {m m' : MapT} {G G' : List Nat} {v : Value} {a : AV} (h : Rep nm w F m G v a) (hb : ∀ b, F b → b < w.heap.size)
    (T : Tr w F m G w' F' m' G') : Rep nm w' F' m' G' v a :=
  h.mono (fun b hF => T.same b (hb b hF) (.inr hF)) T.sub T.gl T.mp

/-- A world that says the same of all blocks. -/
theorem Inv.heap {w w' : World} {F : Nat → Prop} {m : MapT} {h : Heap} (I : Inv nm w F m h) (hw : w'.heap = w.heap) : Inv nm w' F m h where
  live id g loc hm := by
    obtain ⟨o, ho, hr⟩ := I.live id g loc hm
    refine ⟨o, ho, ?_⟩
    have hrep : ∀ v a, Rep nm w F m (gens h) v a → Rep nm w' F m (gens h) v a := fun v a hr =>
      hr.mono (fun b _ => by rw [hw]) (fun _ h => h) (fun _ g h => ⟨g, h, Nat.le_refl _⟩) (fun _ _ _ _ h _ _ => h)
    cases o with
    | dead => exact hr
    | arr bx fz es rows =>
      obtain ⟨h1, cs, ty, fr, h2, h3, h4, h5, h6⟩ := hr
      exact ⟨h1, cs, ty, fr, by rw [hw]; exact h2, h3, h4, h5, fun i row hi => ⟨(h6 i row hi).1, fun j l hl => by
        obtain ⟨a1, v, a2, a3⟩ := (h6 i row hi).2 j l hl
        exact ⟨a1, v, a2, hrep _ _ a3⟩⟩⟩
    | map fz es =>
      obtain ⟨mes, clock, h2, h3, h4⟩ := hr
      exact ⟨mes, clock, by rw [hw]; exact h2, h3, fun i e p he hp => ⟨hrep _ _ (h4 i e p he hp).1, hrep _ _ (h4 i e p he hp).2⟩⟩
  has := I.has
  inj := I.inj
  fz := I.fz
  bd b hb := by rw [hw]; exact I.bd b hb

theorem Tr.heap {w w' : World} {F : Nat → Prop} {m : MapT} {G : List Nat} (hw : w'.heap = w.heap) (h1 : w'.os = w.os) (h2 : w'.tape = w.tape) (h3 : w'.output = w.output) : Tr w F m G w' F m G :=
  ⟨h1, h2, h3, by rw [hw]; exact Nat.le_refl _, fun _ h => h, fun _ _ _ => by rw [hw], fun _ h => .inl h, fun _ h => .inl h, fun _ g h => ⟨g, h, Nat.le_refl _⟩, fun _ _ _ _ h _ _ => h⟩

/-! One object is laid anew (or for the first time): at a block that is new, or was this object's own. -/

theorem gens_set {h : Heap} {id : Nat} {a : AO} : gens (h.set id a) = (gens h).set id a.gen := by
  simp [gens, List.map_set]

theorem gens_get {h : Heap} {id : Nat} : (gens h)[id]? = (h[id]?).map (·.gen) := by simp [gens]

theorem OCRep.of {w w' : World} {F F' : Nat → Prop} {m m' : MapT} {G G' : List Nat} {loc : Loc} {o : OC} (h : OCRep nm w F m G loc o)
    (hb : w'.heap[loc.blk]? = w.heap[loc.blk]?) (hrep : ∀ v a, Rep nm w F m G v a → Rep nm w' F' m' G' v a) : OCRep nm w' F' m' G' loc o := by
  cases o with
  | dead => exact h
  | arr bx fz es rows =>
    obtain ⟨h1, cs, ty, fr, h2, h3, h4, h5, h6⟩ := h
    exact ⟨h1, cs, ty, fr, hb.trans h2, h3, h4, h5, fun i row hi => ⟨(h6 i row hi).1, fun j l hl => by
      obtain ⟨a1, v, a2, a3⟩ := (h6 i row hi).2 j l hl
      exact ⟨a1, v, a2, hrep _ _ a3⟩⟩⟩
  | map fz es =>
    obtain ⟨mes, clock, h2, h3, h4⟩ := h
    exact ⟨mes, clock, hb.trans h2, h3, fun i e p he hp => ⟨hrep _ _ (h4 i e p he hp).1, hrep _ _ (h4 i e p he hp).2⟩⟩

/-- The step: object 'id' becomes ⟨g', o⟩ at loc; its generation has grown, or it is a store into what it was. -/
theorem put_step {w w' : World} {F : Nat → Prop} {m : MapT} {h h' : Heap} (I : Inv nm w F m h) {id g' : Nat} {o : OC} {loc : Loc}
    (hos : w'.os = w.os) (htape : w'.tape = w.tape) (hout : w'.output = w.output) (hsize : w.heap.size ≤ w'.heap.size)
    (hsame : ∀ b, b ≠ loc.blk → b < w.heap.size → w'.heap[b]? = w.heap[b]?)
    (hblk : w.heap.size ≤ loc.blk ∨ (∃ g0 loc0 o0, m id = some (g0, loc0) ∧ h[id]? = some ⟨g0, o0⟩ ∧ o0.fz = false ∧ loc0.blk = loc.blk))
    (hh : ∀ j, j ≠ id → h'[j]? = h[j]?) (hid : h'[id]? = some ⟨g', o⟩) (hfz : o.fz = false)
    (hgen : (∀ g0, (gens h)[id]? = some g0 → g0 < g') ∨ m id = some (g', loc))
    (ho : ∀ m' : MapT, m' = (fun j => if j = id then some (g', loc) else m j) → (∀ v a, Rep nm w F m (gens h) v a → Rep nm w' F m' (gens h') v a) → OCRep nm w' F m' (gens h') loc o) :
    ∃ m' : MapT, m' = (fun j => if j = id then some (g', loc) else m j) ∧ Inv nm w' F m' h' ∧ Tr w F m (gens h) w' F m' (gens h') := by
  have hFne : ∀ b, F b → b ≠ loc.blk := by
    intro b hb e
    subst e
    rcases hblk with hblk | ⟨g0, loc0, o0, h1, h2, h3, h4⟩
    · have := I.bd _ hb; omega
    · have := (I.fz id g0 loc0 o0 h1 h2).2 (by rw [h4]; exact hb); rw [h3] at this; cases this
  have hFsame : ∀ b, F b → w'.heap[b]? = w.heap[b]? := fun b hb => hsame b (hFne b hb) (I.bd b hb)
  have hgl : ∀ (j g : Nat), (gens h)[j]? = some g → ∃ g2 : Nat, (gens h')[j]? = some g2 ∧ g ≤ g2 := by
    intro j g hj
    by_cases e : j = id
    · subst e
      refine ⟨g', by rw [gens_get, hid]; rfl, ?_⟩
      rcases hgen with hgen | hgen
      · exact Nat.le_of_lt (hgen _ hj)
      · obtain ⟨o1, h1, _⟩ := I.live _ _ _ hgen
        rw [gens_get, h1] at hj
        injection hj with hj
        exact Nat.le_of_eq hj.symm
    · exact ⟨g, by rw [gens_get, hh j e, ← gens_get]; exact hj, Nat.le_refl _⟩
  have hmp : ∀ (j g g0 : Nat) (l : Loc), (fun j => if j = id then some (g', loc) else m j) j = some (g, l) → (gens h)[j]? = some g0 → g ≤ g0 → m j = some (g, l) := by
    intro j g g0 l hm hg hl
    simp only at hm
    by_cases e : j = id
    · subst e
      rw [if_pos rfl] at hm
      injection hm with hm
      injection hm with h1 h2
      subst h1; subst h2
      rcases hgen with hgen | hgen
      · have := hgen g0 hg; omega
      · exact hgen
    · rw [if_neg e] at hm; exact hm
  have hrep : ∀ v a, Rep nm w F m (gens h) v a → Rep nm w' F (fun j => if j = id then some (g', loc) else m j) (gens h') v a := fun v a hr =>
    hr.mono hFsame (fun _ h => h) hgl hmp
  have hown : ∀ j g l, j ≠ id → m j = some (g, l) → l.blk ≠ loc.blk := by
    intro j g l hj hm e
    rcases hblk with hblk | ⟨g0, loc0, o0, h1, h2, h3, h4⟩
    · have := I.blk_lt hm; omega
    · exact hj (I.inj j g l id g0 loc0 hm h1 (by rw [e, h4]))
  refine ⟨_, rfl, ⟨?_, ?_, ?_, ?_, ?_⟩, ⟨hos, htape, hout, hsize, fun _ h => h, ?_, ?_, fun _ h => .inl h, hgl, hmp⟩⟩
  · intro j g l hm
    by_cases e : j = id
    · subst e
      rw [if_pos rfl] at hm
      injection hm with hm
      injection hm with h1 h2
      subst h1; subst h2
      exact ⟨o, hid, ho _ rfl hrep⟩
    · rw [if_neg e] at hm
      obtain ⟨o1, h1, h2⟩ := I.live j g l hm
      exact ⟨o1, by rw [hh j e]; exact h1, h2.of (hsame _ (hown j g l e hm) (I.blk_lt hm)) hrep⟩
  · intro j g o1 hj hd
    by_cases e : j = id
    · subst e
      rw [hid] at hj
      injection hj with hj
      injection hj with h1 h2
      subst h1
      exact ⟨loc, by rw [if_pos rfl]⟩
    · rw [if_neg e]
      rw [hh j e] at hj
      exact I.has j g o1 hj hd
  · intro j g l j' g2 l2 hm hm2 hb
    by_cases e : j = id
    · by_cases e2 : j' = id
      · rw [e, e2]
      · rw [if_pos e] at hm
        rw [if_neg e2] at hm2
        injection hm with hm
        injection hm with h1 h2
        subst h2
        exact (hown j' g2 l2 e2 hm2 hb.symm).elim
    · by_cases e2 : j' = id
      · rw [if_neg e] at hm
        rw [if_pos e2] at hm2
        injection hm2 with hm2
        injection hm2 with h1 h2
        subst h2
        exact (hown j g l e hm hb).elim
      · rw [if_neg e] at hm
        rw [if_neg e2] at hm2
        exact I.inj j g l j' g2 l2 hm hm2 hb
  · intro j g l o1 hm hj
    by_cases e : j = id
    · subst e
      rw [if_pos rfl] at hm
      injection hm with hm
      injection hm with h1 h2
      subst h2
      rw [hid] at hj
      injection hj with hj
      injection hj with _ h3
      subst h3
      rw [hfz]
      exact ⟨fun hx => (Bool.false_ne_true hx).elim, fun hx => (hFne _ hx rfl).elim⟩
    · rw [if_neg e] at hm
      rw [hh j e] at hj
      exact I.fz j g l o1 hm hj
  · exact fun b hb => Nat.lt_of_lt_of_le (I.bd b hb) hsize
  · intro b hb hc
    by_cases e : b = loc.blk
    · subst e
      rcases hblk with hblk | ⟨g0, loc0, o0, h1, h2, h3, h4⟩
      · omega
      · rcases hc with hc | hc
        · exact (hc ⟨id, g0, loc0, h1, h4⟩).elim
        · exact (hFne _ hc rfl).elim
    · exact hsame b e hb
  · rintro b ⟨j, g, l, hm, hb⟩
    simp only at hm
    by_cases e : j = id
    · rw [if_pos e] at hm
      injection hm with hm
      injection hm with h1 h2
      subst h2
      rcases hblk with hblk | ⟨g0, loc0, o0, h1, h2, h3, h4⟩
      · exact .inr (by rw [← hb]; exact hblk)
      · exact .inl ⟨id, g0, loc0, h1, h4.trans hb⟩
    · rw [if_neg e] at hm
      exact .inl ⟨j, g, l, hm, hb⟩

end Go.Vm
