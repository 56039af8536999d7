/- The value machine: what an open row hands in, as values that are only read; and how such a row is shut. -/
import Derived.Test.YtfmmcafccijnhaaVmR
import Derived.ProofKit
namespace Go.Vm
open Go.ChangeShapes Go.WideShapes Go.ChangeAt Go.RowKit

/-- Types of what is handed in: 'sNil', 'sCons': the fields of a struct, one behind the other. -/
inductive Ty where
  | int (k : IntKind)
  | bool
  | str
  | slice (es : Nat) (e : Ty)
  | struct (b : Ty)
  | sNil
  | sCons (f r : Ty)

def Ty.size : Ty → Nat
  | .int _ | .bool | .str | .slice .. => 1
  | .struct b => b.size
  | .sNil => 0
  | .sCons f r => f.size + r.size

/-- Cells of a type. -/
def Ty.has : Ty → List AV → Prop
  | .int k, cs => ∃ n, cs = [.int k n] ∧ k.min ≤ n ∧ n ≤ k.max
  | .bool, cs => ∃ b, cs = [.bool b]
  | .str, cs => ∃ s : List UInt8, cs = [.str s] ∧ s.length ≤ maxLen
  | .slice es e, cs => cs = [.nils] ∨ ∃ rows, cs = [.rs es rows] ∧ rows.length ≤ maxLen ∧ ∀ row, row ∈ rows → e.has row
  | .struct b, cs => b.has cs
  | .sNil, cs => cs = []
  | .sCons f r, cs => ∃ a b, cs = a ++ b ∧ f.has a ∧ r.has b

/-- A type of the program is such a one ('inr': a struct's fields from an offset on, up to its end). -/
def tyOk (P : Program) : Ty → Sum TypeId (List Field × Nat × Nat) → Bool
  | .int k, .inl t => match P.underlying t with
    | some (.int k') => decide (k' = k)
    | _ => false
  | .bool, .inl t => match P.underlying t with
    | some .bool => true
    | _ => false
  | .str, .inl t => match P.underlying t with
    | some .string => true
    | _ => false
  | .slice es e, .inl t => match P.underlying t with
    | some (.slice u) => P.cellsOf u == es && e.size == es && decide (0 < es) && tyOk P e (.inl u)
    | _ => false
  | .struct b, .inl t => match P.underlying t with
    | some (.struct fs) => tyOk P b (.inr (fs.toList, 0, P.cellsOf t))
    | _ => false
  | .sNil, .inr (fs, off, n) => fs.isEmpty && off == n
  | .sCons f r, .inr (x :: fs, off, n) => x.offset == off && P.cellsOf x.type == f.size && tyOk P f (.inl x.type) && tyOk P r (.inr (fs, off + f.size, n))
  | _, _ => false

variable {H : Type} {enc : TypeId × Value → H} {P : Program} {nm : Nat → Option Nat} {w : World} {held : Bool}

/-- Cells of the model are told by cells of the machine. -/
def CRep (nm : Nat → Option Nat) (w : World) (cs : List Value) (as : List AV) : Prop :=
  as.length = cs.length ∧ ∀ (j : Nat) (v : Value) (l : AV), cs[j]? = some v → as[j]? = some l → leaf1 l = true ∧ PRep nm w (fun b => b < w.heap.size) v l

theorem CRep.one {v : Value} {l : AV} (h1 : leaf1 l = true) (h2 : PRep nm w (fun b => b < w.heap.size) v l) : CRep nm w [v] [l] := by
  refine ⟨rfl, fun j v' l' hv hl => ?_⟩
  cases j with
  | zero => simp at hv hl; subst hv; subst hl; exact ⟨h1, h2⟩
  | succ j => simp at hv

theorem CRep.append {cs cs' : List Value} {as as' : List AV} (h : CRep nm w cs as) (h' : CRep nm w cs' as') : CRep nm w (cs ++ cs') (as ++ as') := by
  refine ⟨by simp [h.1, h'.1], fun j v l hv hl => ?_⟩
  rw [List.getElem?_append] at hv hl
  split at hv
  · rename_i hlt
    rw [if_pos (by rw [h.1]; exact hlt)] at hl
    exact h.2 j v l hv hl
  · rename_i hlt
    rw [if_neg (by rw [h.1]; exact hlt), h.1] at hl
    exact h'.2 _ v l hv hl

theorem underlying_cases {P : Program} {t : TypeId} {b : Ty} {off : List Field × Nat × Nat} : True := trivial

theorem spot_of_cell {a : Addr} {v : Value} (h : w.cell? a = some v) : a.spot = none ∧ a.block < w.heap.size := by
  unfold World.cell? at h
  split at h
  · rename_i c _ _ hb
    split at h
    · cases h
    · rename_i hs
      refine ⟨by simpa using hs, ?_⟩
      exact (Array.getElem?_eq_some_iff.1 hb).1
  · cases h

theorem add_block (a : Addr) (n : Nat) : (a.add n).block = a.block := by
  unfold Addr.add
  split <;> rfl

theorem add_none {a : Addr} (h : a.spot = none) (n : Nat) : a.add n = ⟨a.block, a.off + n, none⟩ := by
  obtain ⟨b, o, s⟩ := a
  simp only at h
  subst h
  unfold Addr.add
  split
  · rename_i h0; subst h0; rfl
  · rfl

theorem trod_has : ∀ (T : Ty),
    (∀ t, tyOk P T (.inl t) = true → ∀ (fuel : Nat) (cs : List Value) (x : DataW H × List MemPlace), DataW.trod enc P w 0 (fun _ => true) held fuel t cs = some x → ∃ as, T.has as ∧ as.length = T.size ∧ CRep nm w cs as) ∧
    (∀ fs off n, tyOk P T (.inr (fs, off, n)) = true → ∀ (fuel : Nat) (cs : List Value) (off0 : Nat), cs.length = n → (∀ f, f ∈ fs → ∃ x, DataW.trod enc P w 0 (fun _ => true) held fuel f.type ((cs.drop f.offset).take (P.cellsOf f.type)) = some x) →
      off0 = off → off ≤ n → ∃ as, T.has as ∧ as.length = T.size ∧ CRep nm w (cs.drop off) as) := by
  intro T
  induction T with
  | int k =>
    refine ⟨fun t ht fuel cs x h => ?_, fun fs off n h => (by cases h)⟩
    simp only [tyOk] at ht
    split at ht
    · rename_i k' hu
      have hk : k' = k := by simpa using ht
      subst hk
      obtain ⟨n, rfl, _, hw⟩ := DataW.trod_int hu h
      simp only [Lit.wf, Bool.and_eq_true, decide_eq_true_eq] at hw
      exact ⟨[.int k' n], ⟨n, rfl, hw⟩, rfl, .one rfl (.int _ _)⟩
    · cases ht
  | bool =>
    refine ⟨fun t ht fuel cs x h => ?_, fun fs off n h => (by cases h)⟩
    simp only [tyOk] at ht
    split at ht
    · rename_i hu
      obtain ⟨b, rfl, _⟩ := DataW.trod_bool hu h
      exact ⟨[.bool b], ⟨b, rfl⟩, rfl, .one rfl (.bool _)⟩
    · cases ht
  | str =>
    refine ⟨fun t ht fuel cs x h => ?_, fun fs off n h => (by cases h)⟩
    simp only [tyOk] at ht
    split at ht
    · rename_i hu
      obtain ⟨s, rfl, _, hs⟩ := DataW.trod_string hu h
      exact ⟨[.str s.data.toList], ⟨_, rfl, by simpa using hs⟩, rfl, .one rfl (.str _)⟩
    · cases ht
  | slice es e ih =>
    refine ⟨fun t ht fuel cs x h => ?_, fun fs off n h => (by cases h)⟩
    simp only [tyOk] at ht
    split at ht
    · rename_i u hu
      simp only [Bool.and_eq_true, beq_iff_eq, decide_eq_true_eq] at ht
      obtain ⟨⟨⟨h1, h2⟩, h3⟩, h4⟩ := ht
      rcases DataW.trod_slice hu h with ⟨rfl, _⟩ | ⟨a, len, cap, elems, rest, n, rfl, rfl, _, hbl, hlc, hcm, hel, hget, _, _⟩
      · exact ⟨[.nils], .inl rfl, rfl, .one rfl .nils⟩
      · -- one row
        have row : ∀ i, i < len → ∃ as, e.has as ∧ as.length = es ∧ ∀ (j : Nat) (l : AV), as[j]? = some l → leaf1 l = true ∧ ∃ v, w.cell? ((a.add (i * es)).add j) = some v ∧ PRep nm w (fun b => b < w.heap.size) v l := by
          intro i hi
          have hg := hget i hi
          obtain ⟨y, hy⟩ : ∃ y, elems[i]? = some y := ⟨_, List.getElem?_eq_getElem (by omega)⟩
          rw [hy, h1, Option.bind_eq_some_iff] at hg
          obtain ⟨cs', hc1, hc2⟩ := hg
          obtain ⟨_, hc3, hc4⟩ := World.cells?_some hc1
          obtain ⟨as, ha1, ha2, ha3⟩ := ih.1 u h4 n cs' y hc2
          refine ⟨as, ha1, by rw [ha2, h2], fun j l hl => ?_⟩
          have hj : j < cs'.length := by rw [← ha3.1]; exact (List.getElem?_eq_some_iff.1 hl).1
          obtain ⟨r1, r2⟩ := ha3.2 j cs'[j] l (List.getElem?_eq_getElem hj) hl
          exact ⟨r1, _, by rw [hc4 j (by omega)]; exact List.getElem?_eq_getElem hj, r2⟩
        have hcho : ∃ g : Nat → List AV, ∀ i, i < len → e.has (g i) ∧ (g i).length = es ∧ ∀ (j : Nat) (l : AV), (g i)[j]? = some l → leaf1 l = true ∧ ∃ v, w.cell? ((a.add (i * es)).add j) = some v ∧ PRep nm w (fun b => b < w.heap.size) v l := by
          refine ⟨fun i => if hi : i < len then Classical.choose (row i hi) else [], fun i hi => ?_⟩
          simp only [dif_pos hi]
          exact Classical.choose_spec (row i hi)
        obtain ⟨g, hg⟩ := hcho
        have hlen : ((List.range len).map g).length = len := by simp
        have hrow : ∀ (i : Nat) (r : List AV), ((List.range len).map g)[i]? = some r → i < len ∧ r = g i := by
          intro i r hr
          have hi : i < len := by rw [← hlen]; exact (List.getElem?_eq_some_iff.1 hr).1
          rw [List.getElem?_map, List.getElem?_range hi] at hr
          exact ⟨hi, by simpa using hr.symm⟩
        have hspot : 0 < len → a.spot = none ∧ a.block < w.heap.size := by
          intro h0
          obtain ⟨_, g2, g3⟩ := hg 0 h0
          obtain ⟨_, v, hv, _⟩ := g3 0 (g 0)[0] (List.getElem?_eq_getElem (by omega))
          rw [Nat.zero_mul] at hv
          have e0 : (a.add 0).add 0 = a := rfl
          rw [e0] at hv
          exact spot_of_cell hv
        refine ⟨[.rs es ((List.range len).map g)], .inr ⟨_, rfl, by rw [hlen]; omega, fun r hr => ?_⟩, rfl, .one rfl ?_⟩
        · obtain ⟨i, hi, rfl⟩ := List.mem_map.1 hr
          exact (hg i (List.mem_range.1 hi)).1
        · have hkey : ∀ (i : Nat) (r : List AV) (j : Nat) (l : AV), ((List.range len).map g)[i]? = some r → r[j]? = some l → a.block < w.heap.size ∧ leaf1 l = true ∧ ∃ v, w.cell? ⟨a.block, a.off + (i * es + j), none⟩ = some v ∧ PRep nm w (fun b => b < w.heap.size) v l := by
            intro i r j l hr hl
            obtain ⟨hi, rfl⟩ := hrow i r hr
            obtain ⟨g1, v, g2, g3⟩ := (hg i hi).2.2 j l hl
            obtain ⟨s1, s2⟩ := hspot (by omega)
            rw [add_none s1, add_none rfl] at g2
            refine ⟨s2, g1, v, ?_, g3⟩
            simp only at g2
            rw [← Nat.add_assoc]
            exact g2
          have := PRep.rs (nm := nm) (w := w) (F := fun b => b < w.heap.size) a cap es ((List.range len).map g) (fun i j => (w.cell? ⟨a.block, a.off + (i * es + j), none⟩).getD undef)
            (fun hne => (hspot (by
              rcases Nat.eq_zero_or_pos len with h0 | h0
              · subst h0; exact (hne rfl).elim
              · exact h0)).1) (by rw [hlen]; exact hlc)
            (fun i r hr => by obtain ⟨hi, rfl⟩ := hrow i r hr; exact (hg i hi).2.1)
            (fun i r j l hr hl => by
              obtain ⟨k1, k2, v, k3, _⟩ := hkey i r j l hr hl
              exact ⟨k1, k2, by rw [k3]; rfl⟩)
            (fun i r j l hr hl => by
              obtain ⟨_, _, v, k3, k4⟩ := hkey i r j l hr hl
              rw [k3]
              exact k4)
          rw [hlen] at this
          exact this
    · cases ht
  | struct b ih =>
    refine ⟨fun t ht fuel cs x h => ?_, fun fs off n h => (by cases h)⟩
    simp only [tyOk] at ht
    split at ht
    · rename_i fs hu
      obtain ⟨xs, n, rfl, _, hl, hxl, hf⟩ := DataW.trod_struct hu h
      have := ih.2 fs.toList 0 (P.cellsOf t) ht n cs 0 hl (fun f hfm => by
        obtain ⟨i, hi, rfl⟩ := List.getElem_of_mem hfm
        have hi' : i < fs.size := by simpa using hi
        have := hf i fs[i] (Array.getElem?_eq_getElem hi')
        rw [List.getElem?_eq_getElem (by omega)] at this
        exact ⟨_, by simpa using this⟩) rfl (Nat.zero_le _)
      exact this
    · cases ht
  | sNil =>
    refine ⟨fun t h => (by cases h), fun fs off n h fuel cs off0 hl _ _ hle => ?_⟩
    simp only [tyOk, Bool.and_eq_true, beq_iff_eq] at h
    refine ⟨[], rfl, rfl, ?_⟩
    rw [List.drop_eq_nil_of_le (by omega)]
    exact ⟨rfl, fun j v l hv => by simp at hv⟩
  | sCons f r ihf ihr =>
    refine ⟨fun t h => (by cases h), fun fs off n h fuel cs off0 hl hfs _ hle => ?_⟩
    cases fs with
    | nil => cases h
    | cons x fs =>
      simp only [tyOk, Bool.and_eq_true, beq_iff_eq] at h
      obtain ⟨⟨⟨h1, h2⟩, h3⟩, h4⟩ := h
      obtain ⟨y, hy⟩ := hfs x (by simp)
      obtain ⟨as, a1, a2, a3⟩ := ihf.1 x.type h3 fuel _ y hy
      have hlen : ((cs.drop x.offset).take (P.cellsOf x.type)).length = f.size := by rw [← a3.1, a2]
      have hle2 : off + f.size ≤ n := by
        rw [h1, h2] at hlen
        simp at hlen
        omega
      obtain ⟨bs, b1, b2, b3⟩ := ihr.2 fs (off + f.size) n h4 fuel cs _ hl (fun g hg => hfs g (by simp [hg])) rfl hle2
      refine ⟨as ++ bs, ⟨as, bs, rfl, a1, b1⟩, by simp [a2, b2, Ty.size], ?_⟩
      have := a3.append b3
      rw [h1, h2] at this
      have e : List.take f.size (List.drop off cs) ++ List.drop (off + f.size) cs = List.drop off cs := by
        rw [← List.drop_drop]
        exact List.take_append_drop _ _
      rw [e] at this
      exact this

end Go.Vm
