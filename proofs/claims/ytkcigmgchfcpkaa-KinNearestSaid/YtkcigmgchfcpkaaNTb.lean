/- How the table of who stands above whom is made, in plain words. Maps by texts; the tree of classes as a value; what it answers: 'Fits', 'Known'. The making of a tree, in plain words. Kin: the sets of a tree name nobody twice, and only those who are there. The tree of classes in the heap, while it is made. 'climb' on the machine is the climb of KinC. 'parents' on the machine. 'New' on the machine: the own classes, names, classes. -/
import Derived.Test.YtkcigmgchfcpkaaNTa
set_option linter.unusedSimpArgs false
set_option linter.unusedVariables false
set_option linter.unusedSectionVars false
namespace Go.Vm
open Cel
abbrev CTab := List (Txt × Cls)
def clook (C : CTab) (n : Txt) : Option Cls := (C.find? fun p => p.1 = n).map (·.2)
def ckeys (C : CTab) : List Txt := C.map (·.1)
def upOf (c : Cls) : List Txt := (lst c.ifs).map (·.s) ++ (if c.sup = [] then [] else [c.sup])
def upC (C : CTab) (n : Txt) : List Txt := match clook C n with
  | some c => upOf c
  | none => []
def sput (x : Txt) (S : List Txt) : List Txt := if x ∈ S then S else S ++ [x]
def sjoin (S T : List Txt) : List Txt := T.foldl (fun S x => sput x S) S
def climbs (f : Txt → ATab → List Txt → Option (Bool × ATab × List Txt)) : List Txt → ATab → List Txt → List Txt → Option (Bool × ATab × List Txt × List Txt)
  | [], A, O, S => some (true, A, O, S)
  | s :: r, A, O, S => match f s A O with
    | some (true, A', O') => climbs f r A' O' (sjoin S ((alook A' s).getD []))
    | some (false, A', O') => some (false, A', O', S)
    | none => none
def y3d (up : Txt → List Txt) : Nat → Txt → ATab → List Txt → Option (Bool × ATab × List Txt)
  | 0, _, _, _ => none
  | k + 1, n, A, O => if n ∈ akeys A then some (true, A, O) else if n ∈ O then some (false, A, O) else
    match climbs (y3d up k) (up n) A (O ++ [n]) [n] with
    | some (true, A', O', S) => some (true, A' ++ [(n, S)], O')
    | some (false, A', O', _) => some (false, A', O')
    | none => none
theorem yej {x y : Txt} {S : List Txt} : y ∈ sput x S ↔ y = x ∨ y ∈ S := by
  unfold sput
  split
  · rename_i h
    constructor
    · exact .inr
    · rintro (rfl | h2)
      · exact h
      · exact h2
  · rw [List.mem_append, List.mem_singleton]
    exact Or.comm
theorem y8u {y : Txt} : ∀ {T S : List Txt}, y ∈ sjoin S T ↔ y ∈ S ∨ y ∈ T
  | [], S => by simp [sjoin]
  | x :: T, S => by
    have ih := y8u (y := y) (T := T) (S := sput x S)
    unfold sjoin at ih ⊢
    rw [List.foldl_cons, ih, yej, List.mem_cons]
    constructor
    · rintro ((h | h) | h)
      · exact .inr (.inl h)
      · exact .inl h
      · exact .inr (.inr h)
    · rintro (h | h | h)
      · exact .inl (.inr h)
      · exact .inl (.inl h)
      · exact .inr h
theorem y4i (A B : ATab) : akeys (A ++ B) = akeys A ++ akeys B := List.map_append
structure Grown (A : ATab) (O : List Txt) (A' : ATab) (O' : List Txt) : Prop where
  pre : ∃ B, A' = A ++ B ∧ ∀ x ∈ akeys B, x ∉ O
  op : ∀ x ∈ O, x ∈ O'
theorem Grown.refl (A : ATab) (O : List Txt) : Grown A O A O := ⟨⟨[], by simp, by intro x h; cases h⟩, fun _ h => h⟩
theorem Grown.trans {A A' A'' : ATab} {O O' O'' : List Txt} (h : Grown A O A' O') (h' : Grown A' O' A'' O'') : Grown A O A'' O'' := by
  obtain ⟨B, e, hB⟩ := h.pre
  obtain ⟨B', e', hB'⟩ := h'.pre
  refine ⟨⟨B ++ B', by rw [e', e, List.append_assoc], fun x hx => ?_⟩, fun x hx => h'.op x (h.op x hx)⟩
  rw [y4i, List.mem_append] at hx
  rcases hx with hx | hx
  · exact hB x hx
  · exact fun ho => hB' x hx (h.op x ho)
theorem Grown.key {A A' : ATab} {O O' : List Txt} (h : Grown A O A' O') {x : Txt} (hx : x ∈ akeys A) : x ∈ akeys A' := by
  obtain ⟨B, e, _⟩ := h.pre
  rw [e, y4i]
  exact List.mem_append_left _ hx
theorem Grown.mem {A A' : ATab} {O O' : List Txt} (h : Grown A O A' O') {x : Txt × List Txt} (hx : x ∈ A) : x ∈ A' := by
  obtain ⟨B, e, _⟩ := h.pre
  rw [e]
  exact List.mem_append_left _ hx
section
variable {up : Txt → List Txt}
theorem yc9 {f : Txt → ATab → List Txt → Option (Bool × ATab × List Txt)}
    (hf : ∀ n A O b A' O', f n A O = some (b, A', O') → AOk up A → AOk up A' ∧ Grown A O A' O' ∧ (b = true → n ∈ akeys A')) :
    ∀ (r : List Txt) (A : ATab) (O S : List Txt) (b : Bool) (A' : ATab) (O' S' : List Txt), climbs f r A O S = some (b, A', O', S') → AOk up A →
      AOk up A' ∧ Grown A O A' O' ∧ (b = true → (∀ x ∈ S, x ∈ S') ∧ (∀ s ∈ r, ∃ T, (s, T) ∈ A' ∧ ∀ x ∈ T, x ∈ S') ∧ (∀ x ∈ S', x ∈ S ∨ ∃ s ∈ r, ∃ T, (s, T) ∈ A' ∧ x ∈ T))
  | [], A, O, S, b, A', O', S', h, hA => by
    simp only [climbs, Option.some.injEq, Prod.mk.injEq] at h
    obtain ⟨rfl, rfl, rfl, rfl⟩ := h
    refine ⟨hA, .refl _ _, fun _ => ⟨fun _ h => h, ?_, fun x hx => .inl hx⟩⟩
    intro s hs
    cases hs
  | s :: r, A, O, S, b, A', O', S', h, hA => by
    rw [climbs] at h
    cases hs : f s A O with
    | none => rw [hs] at h; cases h
    | some p =>
      obtain ⟨c, A1, O1⟩ := p
      rw [hs] at h
      obtain ⟨h1, h2, h3⟩ := hf _ _ _ _ _ _ hs hA
      cases c with
      | false =>
        simp only [Option.some.injEq, Prod.mk.injEq] at h
        obtain ⟨rfl, rfl, rfl, rfl⟩ := h
        exact ⟨h1, h2, fun e => by cases e⟩
      | true =>
        simp only at h
        obtain ⟨i1, i2, i3⟩ := yc9 hf r A1 O1 _ b A' O' S' h h1
        refine ⟨i1, h2.trans i2, fun hb => ?_⟩
        obtain ⟨j1, j2, j3⟩ := i3 hb
        obtain ⟨T, hT⟩ := yyf (h3 rfl)
        have hl : (alook A1 s).getD [] = T := by
          cases ha : alook A1 s with
          | none => exact (yov ha (yfe hT)).elim
          | some T' => exact h1.uniq (y9g ha) hT
        rw [hl] at j1 j3
        refine ⟨fun x hx => j1 x (y8u.2 (.inl hx)), fun q hq => ?_, fun x hx => ?_⟩
        · rcases List.mem_cons.1 hq with rfl | hq
          · exact ⟨T, i2.mem hT, fun x hx => j1 x (y8u.2 (.inr hx))⟩
          · exact j2 q hq
        · rcases j3 x hx with h | ⟨q, hq, U, hU, hxU⟩
          · rcases y8u.1 h with h | h
            · exact .inl h
            · exact .inr ⟨s, List.mem_cons_self, T, i2.mem hT, h⟩
          · exact .inr ⟨q, List.mem_cons_of_mem _ hq, U, hU, hxU⟩
theorem y6k : ∀ (k : Nat) (n : Txt) (A : ATab) (O : List Txt) (b : Bool) (A' : ATab) (O' : List Txt), y3d up k n A O = some (b, A', O') → AOk up A → AOk up A' ∧ Grown A O A' O' ∧ (b = true → n ∈ akeys A')
  | 0, _, _, _, _, _, _, h, _ => by cases h
  | k + 1, n, A, O, b, A', O', h, hA => by
    rw [y3d] at h
    split at h
    · rename_i hn
      simp only [Option.some.injEq, Prod.mk.injEq] at h
      obtain ⟨rfl, rfl, rfl⟩ := h
      exact ⟨hA, .refl _ _, fun _ => hn⟩
    · split at h
      · simp only [Option.some.injEq, Prod.mk.injEq] at h
        obtain ⟨rfl, rfl, rfl⟩ := h
        exact ⟨hA, .refl _ _, fun e => by cases e⟩
      · rename_i hnA hnO
        have hO : Grown A O A (O ++ [n]) := ⟨⟨[], by simp, by intro x h; cases h⟩, fun x hx => List.mem_append_left _ hx⟩
        cases hc : climbs (y3d up k) (up n) A (O ++ [n]) [n] with
        | none => rw [hc] at h; cases h
        | some p =>
          obtain ⟨c, A1, O1, S1⟩ := p
          rw [hc] at h
          obtain ⟨h1, h2, h3⟩ := yc9 (up := up) (fun n A O b A' O' => y6k k n A O b A' O') _ _ _ _ _ _ _ _ hc hA
          cases c with
          | false =>
            simp only [Option.some.injEq, Prod.mk.injEq] at h
            obtain ⟨rfl, rfl, rfl⟩ := h
            exact ⟨h1, hO.trans h2, fun e => by cases e⟩
          | true =>
            simp only [Option.some.injEq, Prod.mk.injEq] at h
            obtain ⟨rfl, rfl, rfl⟩ := h
            obtain ⟨j1, j2, j3⟩ := h3 rfl
            have hn1 : n ∉ akeys A1 := by
              obtain ⟨B, e, hB⟩ := h2.pre
              rw [e, y4i, List.mem_append]
              rintro (h | h)
              · exact hnA h
              · exact hB n h (List.mem_append_right _ (by simp))
            have g0 := hO.trans h2
            have g1 : Grown A O (A1 ++ [(n, S1)]) O1 := by
              obtain ⟨B, e, hB⟩ := g0.pre
              refine ⟨⟨B ++ [(n, S1)], by rw [e, List.append_assoc], fun x hx => ?_⟩, g0.op⟩
              rw [y4i, List.mem_append] at hx
              rcases hx with hx | hx
              · exact hB x hx
              · rw [show x = n by simpa [akeys] using hx]
                exact hnO
            exact ⟨.snoc h1 hn1 (j1 n (by simp)) j2 fun x hx => (j3 x hx).elim (fun h => .inl (by simpa using h)) .inr, g1, fun _ => by rw [y4i]; exact List.mem_append_right _ (by simp [akeys])⟩
end
end Go.Vm
namespace Go.Vm
open Cel
section
variable {α : Type} (V : α → AV)
def tE (L : List (Txt × α)) : List (AV × AV) := L.map fun p => (.str p.1, V p.2)
def tlook (L : List (Txt × α)) (n : Txt) : Option α := (L.find? fun p => p.1 = n).map (·.2)
theorem yho (n : Txt) : ∀ L : List (Txt × α), mfind false [2] (.str n) (tE V L) = some ((tlook L n).map V)
  | [] => rfl
  | (m, v) :: L => by
    have ih := yho n L
    unfold tE tlook at ih ⊢
    rw [List.map_cons, List.find?_cons, mfind]
    have e : y1o false [2] (.str n) (.str m) = some (n == m) := rfl
    simp only [e]
    by_cases h : n = m
    · subst h
      simp
    · have h' : ¬ m = n := fun q => h q.symm
      rw [show (n == m) = false from by simpa using h]
      simp only [h', decide_false]
      exact ih
theorem ymw (n : Txt) (v : α) : ∀ L : List (Txt × α), tlook L n = none → mset false [2] (.str n) (V v) (tE V L) = some (tE V (L ++ [(n, v)]))
  | [], _ => rfl
  | (m, u) :: L, hn => by
    unfold tlook at hn
    rw [List.find?_cons] at hn
    have e : y1o false [2] (.str n) (.str m) = some (n == m) := rfl
    by_cases h : m = n
    · simp [h] at hn
    · simp only [h, decide_false] at hn
      have ih := ymw n v L hn
      unfold tE at ih ⊢
      rw [List.map_cons, mset]
      have h' : ¬ n = m := fun q => h q.symm
      rw [e, show (n == m) = false from by simpa using h']
      simp only [ih]
      rfl
def mgV (z : AV) : Bool → Option α → AV
  | true, some v => .tup [V v, .bool true]
  | false, some v => V v
  | true, none => .tup [z, .bool false]
  | false, none => z
@[simp] theorem ywo (z : AV) (v : α) : mgV V z true (some v) = .tup [V v, .bool true] := rfl
@[simp] theorem y13e (z : AV) (v : α) : mgV V z false (some v) = V v := rfl
@[simp] theorem yrz (z : AV) : mgV V z true none = .tup [z, .bool false] := rfl
@[simp] theorem y143 (z : AV) : mgV V z false none = z := rfl
theorem ybs (H : Heap) (L : List (Txt × α)) (n : Txt) (z : AV) (ok : Bool) : y16 false [2] z ok (.rm (tE V L)) (.str n) H = some (mgV V z ok (tlook L n)) := by
  simp only [y16, yho]
  cases tlook L n <;> cases ok <;> rfl
theorem yeo {H : Heap} {id g : Nat} {fz : Bool} {L : List (Txt × α)} (h : H[id]? = some ⟨g, .map fz (tE V L)⟩) (n : Txt) (z : AV) (ok : Bool) : y16 false [2] z ok (.lm id g) (.str n) H = some (mgV V z ok (tlook L n)) := by
  have : y2f H id g = some (fz, tE V L) := by simp [y2f, y1p, h]
  simp only [y16, this, Option.map_some, yho]
  cases tlook L n <;> cases ok <;> rfl
theorem yig {H : Heap} {id g : Nat} {L : List (Txt × α)} (h : H[id]? = some ⟨g, .map false (tE V L)⟩) (n : Txt) (v : α) (hn : tlook L n = none) : y3z false [2] (.lm id g) (.str n) (V v) H = some (.tup [], H.set id ⟨g, .map false (tE V (L ++ [(n, v)]))⟩) := by
  have : y2f H id g = some (false, tE V L) := by simp [y2f, y1p, h]
  simp only [y3z, this, ymw V n v L hn, y5i, h]
end
def sE (S : List Txt) : List (AV × AV) := S.map fun x => (.str x, .bool true)
theorem yi4 (x : Txt) : ∀ S : List Txt, mfind false [2] (.str x) (sE S) = some (if x ∈ S then some (.bool true) else none)
  | [] => rfl
  | y :: S => by
    have ih := yi4 x S
    unfold sE at ih ⊢
    rw [List.map_cons, mfind]
    have e : y1o false [2] (.str x) (.str y) = some (x == y) := rfl
    simp only [e]
    by_cases h : x = y
    · subst h
      simp
    · rw [show (x == y) = false from by simpa using h]
      simp only [ih, List.mem_cons, h, false_or]
theorem y13a (x : Txt) : ∀ S : List Txt, mset false [2] (.str x) (.bool true) (sE S) = some (sE (sput x S))
  | [] => rfl
  | y :: S => by
    have ih := y13a x S
    unfold sE at ih ⊢
    rw [List.map_cons, mset]
    have e : y1o false [2] (.str x) (.str y) = some (x == y) := rfl
    simp only [e]
    by_cases h : x = y
    · subst h
      simp [sput]
    · rw [show (x == y) = false from by simpa using h]
      simp only [ih, Option.map_some, sput, List.mem_cons, h, false_or]
      split <;> simp
theorem y1d5 (H : Heap) (S : List Txt) (x : Txt) : y16 false [2] (.bool false) false (.rm (sE S)) (.str x) H = some (.bool (decide (x ∈ S))) := by
  simp only [y16, yi4]
  by_cases h : x ∈ S <;> simp [h]
theorem y16z {H : Heap} {id g : Nat} {fz : Bool} {S : List Txt} (h : H[id]? = some ⟨g, .map fz (sE S)⟩) (x : Txt) : y16 false [2] (.bool false) false (.lm id g) (.str x) H = some (.bool (decide (x ∈ S))) := by
  have : y2f H id g = some (fz, sE S) := by simp [y2f, y1p, h]
  simp only [y16, this, Option.map_some, yi4]
  by_cases h : x ∈ S <;> simp [h]
theorem yhu {H : Heap} {id g : Nat} {S : List Txt} (h : H[id]? = some ⟨g, .map false (sE S)⟩) (x : Txt) : y3z false [2] (.lm id g) (.str x) (.bool true) H = some (.tup [], H.set id ⟨g, .map false (sE (sput x S))⟩) := by
  have : y2f H id g = some (false, sE S) := by simp [y2f, y1p, h]
  simp only [y3z, this, y13a, y5i, h]
abbrev cV (c : Cls) : AV := .agg (enc c)
abbrev sV (S : List Txt) : AV := .rm (sE S)
abbrev yhm (C : CTab) (N : List Txt) (A : ATab) : List AV := [.rm (tE cV C), slA (some (N.map Tx.mk)), .rm (tE sV A)]
abbrev y11 (C : CTab) (N : List Txt) (A : ATab) : AV := .rp (yhm C N A)
abbrev zCls : List AV := [.int .i64 0, .str [], .str [], .nils, .nils, .nils, .nils]
theorem y8l {fb f : Nat} {args : List AV} {v : AV} {H : Heap} {fr fr' : Bool} (hE : E.pure f = true) (ha : yb (fz H yu) args = some ⟨args, fr, []⟩) (hc : (y6 E).p f args = some ⟨v, [], true, [], []⟩)
    (hv : fz [] yu v = some ⟨v, fr', []⟩ := by rfl) : y7 E (y6 E) fb none true f args H = some (v, H) := by
  have hv' : fz (y1u []) yu v = some ⟨v, fr', []⟩ := hv
  simp [y7, hE, y4n, ha, hc, hv']
theorem y1cd (C : CTab) (N : List Txt) (A : ATab) (a b : Txt) (H : Heap) : yb (fz H yu) [y11 C N A, .str a, .str b] = some ⟨[y11 C N A, .str a, .str b], false, []⟩ := rfl
theorem yr7 (a : Txt) (H : Heap) : yb (fz H yu) [.str a] = some ⟨[.str a], true, []⟩ := rfl
theorem ytk (s : Txt) : (y27 s).length ≤ s.length := by
  unfold y27
  split
  · simp
  · simp
theorem ydo {fb : Nat} {H : Heap} (s : Txt) (hs : Sm s) : y7 E (y6 E) fb none true 35 [.str s] H = some (.str (y2j s), H) := y8l (by kernel_rfl) (yr7 s H) (y16b s hs)
theorem yfg {fb : Nat} {H : Heap} (s : Txt) : y7 E (y6 E) fb none true 36 [.str s] H = some (.str (y27 s), H) := y8l (by kernel_rfl) (yr7 s H) (yqv s)
theorem yha {fb : Nat} {H : Heap} (s : Txt) : y7 E (y6 E) fb none true 34 [.str s] H = some (.int .i64 (yfb s), H) := y8l (by kernel_rfl) (yr7 s H) (y1ak s)
abbrev xB (b : Bool) : Option (Ex AV) := some ⟨.bool b, [], true, [], []⟩
@[simp] theorem ybw (b : Bool) (H : Heap) : yq H (.bool b) = xB b := rfl
theorem y1b5 (C : CTab) (N : List Txt) (A : ATab) : ∀ (n : Nat) (a b : Txt), a.length ≤ n → Sm a → Sm b → (y6 E).p 3 [y11 C N A, .str a, .str b] = xB (ypl (upB A) a b) := by
  intro n
  induction n with
  | zero =>
    intro a b hl _ _
    have ha : a = [] := List.eq_nil_of_length_eq_zero (by omega)
    subst ha
    rw [y1by, ykv]
    unfold yzf y11i
    by_cases hb : b = []
    · simp [hb]
    · rw [if_neg hb, if_pos rfl]
      simp [hb, y66, yik, yed]
  | succ n ih =>
    intro a b hl ha hb
    rw [y1by, ykv]
    unfold yzf y11i
    have hN : y66 0 false (y11 C N A) .nilp = some (.bool false) := rfl
    by_cases h1 : b = []
    · simp [h1]
    rw [if_neg h1]
    simp only [y25, h1, decide_false, y4, y10, hN, y6a]
    by_cases h2 : a = []
    · simp [h2]
    rw [if_neg h2]
    simp only [h2, decide_false, y4, yy, y10]
    by_cases h3 : a = b
    · rw [if_pos h3]
      simp [h3]
    rw [if_neg h3]
    simp only [h3, decide_false, y4, y10]
    by_cases h4 : a = [78]
    · rw [if_pos h4]
      simp only [h4, decide_true, y1q, yha, yc, y13, y4, ybw]
    rw [if_neg h4]
    simp only [h4, decide_false, y10, y14h, ydo b hb, yc, y17s, y1k, y4, y17w]
    by_cases h5 : y2j b = []
    · rw [if_neg (fun q => q h5)]
      simp only [h5, ne_eq, not_true_eq_false, decide_false, y10, y15a, yfg, yc, y1k, y4]
      by_cases h6 : y27 a = []
      · simp [h6]
      · by_cases h7 : y27 b = []
        · simp [h6, h7]
        · simp only [h6, h7, not_false_eq_true, decide_true, y4d, y4, yo, yfv, yha, yc, y13, y1k, ne_eq, Bool.true_and]
          cases hk : decide (yfb (y27 a) = 3) with
          | false => simp
          | true =>
            have hr := ih (y27 a) (y27 b) (by have := (yey h6).1; omega) (by have := ytk a; unfold Sm at ha ⊢; omega) (by have := ytk b; unfold Sm at hb ⊢; omega)
            have hc : y7 E (y6 E) 0 none true 3 [y11 C N A, .str (y27 a), .str (y27 b)] [] = some (.bool (ypl (upB A) (y27 a) (y27 b)), []) := y8l (by kernel_rfl) (y1cd ..) hr
            simp only [y4d, y4, yo, yfv, hc, yc, Bool.true_and, ybw]
    · rw [if_pos h5]
      simp only [h5, ne_eq, not_false_eq_true, decide_true, y1q, y15r]
      cases a with
      | nil => exact (h2 rfl).elim
      | cons c a' =>
        simp only [y7k, y4, y13, y18i, List.head?_cons, Option.some.injEq]
        by_cases h8 : c = 91
        · simp [h8, sObj]
          exact decide_eq_decide.2 Iff.rfl
        · rw [if_neg h8]
          simp only [h8, decide_false, y10, y18u, ydo (c :: a') ha, yc, y1k, y4]
          by_cases h9 : y2j (c :: a') = []
          · simp [h9]
          · have e1 : evLd false 1 (.rp ((yhm C N A).drop 2)) [] = some (.rm (tE sV A)) := rfl
            simp only [h9, ne_eq, not_false_eq_true, decide_true, y4d, y4, y7m, yir, e1, ybs, Bool.true_and]
            have hu : upB A (y2j (c :: a')) (y2j b) = decide (y2j b ∈ (tlook A (y2j (c :: a'))).getD []) := by
              unfold upB alook
              rw [Bool.eq_iff_iff, decide_eq_true_iff, List.contains_iff_mem]
              rfl
            rw [hu]
            cases tlook A (y2j (c :: a')) with
            | none => simp [y16, mfind, y4f]
            | some S => simp [y1d5]
end Go.Vm
namespace Go.Vm
open Cel
theorem y7z {α : Type} {L : List (Txt × α)} {n : Txt} : n ∈ L.map (·.1) ↔ ∃ v, tlook L n = some v := by
  unfold tlook
  constructor
  · intro h
    cases hf : L.find? fun p => decide (p.1 = n) with
    | some p => exact ⟨p.2, rfl⟩
    | none =>
      obtain ⟨p, hp, rfl⟩ := List.mem_map.1 h
      have := List.find?_eq_none.1 hf p hp
      simp at this
  · rintro ⟨v, hv⟩
    cases hf : L.find? fun p => decide (p.1 = n) with
    | none => rw [hf] at hv; cases hv
    | some p =>
      have h1 := List.mem_of_find?_eq_some hf
      have h2 := List.find?_some hf
      simp only [decide_eq_true_eq] at h2
      exact h2 ▸ List.mem_map_of_mem h1
theorem yav {α : Type} {L : List (Txt × α)} {n : Txt} {v : α} (h : tlook L n = some v) : (n, v) ∈ L := by
  unfold tlook at h
  cases hf : L.find? fun p => decide (p.1 = n) with
  | none => rw [hf] at h; cases h
  | some p =>
    have h1 := List.mem_of_find?_eq_some hf
    have h2 := List.find?_some hf
    rw [hf] at h
    simp only [decide_eq_true_eq, Option.map_some, Option.some.injEq] at h2 h
    obtain ⟨a, b⟩ := p
    simp only at h h2
    subst h; subst h2
    exact h1
theorem ybg {α : Type} {L M : List (Txt × α)} {n : Txt} {v : α} (h : tlook L n = some v) : tlook (L ++ M) n = some v := by
  unfold tlook at h ⊢
  rw [List.find?_append]
  cases hf : L.find? fun p => decide (p.1 = n) with
  | none => rw [hf] at h; cases h
  | some p => rw [hf] at h; exact h
section
variable {up : Txt → List Txt} {N : List Txt}
def left (N O : List Txt) : Nat := (N.filter fun x => decide (x ∉ O)).length
theorem yg1 {O O' : List Txt} (h : ∀ x ∈ O, x ∈ O') : left N O' ≤ left N O := by
  unfold left
  induction N with
  | nil => exact Nat.le_refl _
  | cons a N ih =>
    simp only [List.filter_cons]
    by_cases h1 : a ∈ O'
    · simp only [h1, not_true_eq_false, decide_false, Bool.false_eq_true, if_false]
      split
      · rw [List.length_cons]; omega
      · exact ih
    · have h2 : a ∉ O := fun q => h1 (h a q)
      simp only [h1, h2, not_false_eq_true, decide_true, if_true, List.length_cons]
      omega
theorem y14k {O : List Txt} {n : Txt} (hn : n ∈ N) (ho : n ∉ O) : left N (O ++ [n]) < left N O := by
  induction N with
  | nil => cases hn
  | cons a N ih =>
    have hm : left N (O ++ [n]) ≤ left N O := yg1 fun x hx => List.mem_append_left _ hx
    unfold left at hm ih ⊢
    simp only [List.filter_cons]
    by_cases e : a = n
    · subst e
      have : a ∈ O ++ [a] := by simp
      simp only [this, ho, not_true_eq_false, not_false_eq_true, decide_false, decide_true, Bool.false_eq_true, if_false, if_true, List.length_cons]
      omega
    · have hn' : n ∈ N := by
        rcases List.mem_cons.1 hn with h | h
        · exact (e h.symm).elim
        · exact h
      have ih := ih hn'
      by_cases h1 : a ∈ O
      · have h2 : a ∈ O ++ [n] := List.mem_append_left _ h1
        simp only [h1, h2, not_true_eq_false, decide_false, Bool.false_eq_true, if_false]
        exact ih
      · have h2 : a ∉ O ++ [n] := by simp [h1, e]
        simp only [h1, h2, not_false_eq_true, decide_true, if_true, List.length_cons]
        omega
theorem yb4 {f : Txt → ATab → List Txt → Option (Bool × ATab × List Txt)} {m : Nat}
    (hf : ∀ n ∈ N, ∀ A O, left N O ≤ m → ∃ b A' O', f n A O = some (b, A', O') ∧ (∀ x ∈ O, x ∈ O') ∧ ∀ x ∈ akeys A', x ∈ akeys A ∨ x ∈ N) :
    ∀ (r : List Txt) (A : ATab) (O S : List Txt), (∀ s ∈ r, s ∈ N) → left N O ≤ m → ∃ b A' O' S', climbs f r A O S = some (b, A', O', S') ∧ (∀ x ∈ O, x ∈ O') ∧ ∀ x ∈ akeys A', x ∈ akeys A ∨ x ∈ N
  | [], A, O, S, _, _ => ⟨true, A, O, S, rfl, fun _ h => h, fun _ h => .inl h⟩
  | s :: r, A, O, S, hr, hm => by
    obtain ⟨b, A1, O1, e1, h1, h2⟩ := hf s (hr s List.mem_cons_self) A O hm
    rw [climbs, e1]
    cases b with
    | false => exact ⟨false, A1, O1, S, rfl, h1, h2⟩
    | true =>
      obtain ⟨b', A', O', S', e2, h3, h4⟩ := yb4 hf r A1 O1 (sjoin S ((alook A1 s).getD [])) (fun q hq => hr q (List.mem_cons_of_mem _ hq)) (Nat.le_trans (yg1 h1) hm)
      refine ⟨b', A', O', S', e2, fun x hx => h3 x (h1 x hx), fun x hx => ?_⟩
      rcases h4 x hx with h | h
      · exact h2 x h
      · exact .inr h
theorem ycr (hN : ∀ n ∈ N, ∀ s ∈ up n, s ∈ N) : ∀ (k : Nat) (n : Txt), n ∈ N → ∀ (A : ATab) (O : List Txt), left N O < k → ∃ b A' O', y3d up k n A O = some (b, A', O') ∧ (∀ x ∈ O, x ∈ O') ∧ ∀ x ∈ akeys A', x ∈ akeys A ∨ x ∈ N
  | 0, _, _, _, _, h => by omega
  | k + 1, n, hn, A, O, hk => by
    rw [y3d]
    by_cases h1 : n ∈ akeys A
    · rw [if_pos h1]; exact ⟨true, A, O, rfl, fun _ h => h, fun _ h => .inl h⟩
    rw [if_neg h1]
    by_cases h2 : n ∈ O
    · rw [if_pos h2]; exact ⟨false, A, O, rfl, fun _ h => h, fun _ h => .inl h⟩
    rw [if_neg h2]
    have hl := y14k hn h2
    obtain ⟨b, A', O', S', e, h3, h4⟩ := yb4 (f := y3d up k) (m := left N (O ++ [n])) (fun m hm A O hO => ycr hN k m hm A O (by omega)) (up n) A (O ++ [n]) [n] (hN n hn) (Nat.le_refl _)
    rw [e]
    cases b with
    | false => exact ⟨false, A', O', rfl, fun x hx => h3 x (List.mem_append_left _ hx), h4⟩
    | true =>
      refine ⟨true, _, O', rfl, fun x hx => h3 x (List.mem_append_left _ hx), fun x hx => ?_⟩
      rw [y4i, List.mem_append] at hx
      rcases hx with hx | hx
      · exact h4 x hx
      · rw [show x = n by simpa [akeys] using hx]
        exact .inr hn
def y2a (up : Txt → List Txt) (k : Nat) : List Txt → ATab → Option (Bool × ATab)
  | [], A => some (true, A)
  | n :: r, A => match y3d up k n A [] with
    | some (true, A', _) => y2a up k r A'
    | some (false, A', _) => some (false, A')
    | none => none
theorem y60 {k : Nat} (hN : ∀ n ∈ N, ∀ s ∈ up n, s ∈ N) (hk : N.length < k) : ∀ (r : List Txt) (A : ATab), (∀ n ∈ r, n ∈ N) → AOk up A → (∀ x ∈ akeys A, x ∈ N) →
    ∃ b A', y2a up k r A = some (b, A') ∧ AOk up A' ∧ (∀ x ∈ akeys A', x ∈ N) ∧ (b = true → (∀ x ∈ akeys A, x ∈ akeys A') ∧ ∀ x ∈ r, x ∈ akeys A')
  | [], A, _, hA, hx => ⟨true, A, rfl, hA, hx, fun _ => ⟨fun _ h => h, fun x h => by cases h⟩⟩
  | n :: r, A, hr, hA, hx => by
    have hl : left N [] < k := by
      have : left N [] ≤ N.length := List.length_filter_le _ _
      omega
    obtain ⟨b, A1, O1, e, _, h2⟩ := ycr hN k n (hr n List.mem_cons_self) A [] hl
    obtain ⟨h3, h4, h5⟩ := y6k k n A [] b A1 O1 e hA
    have hx1 : ∀ x ∈ akeys A1, x ∈ N := fun x h => (h2 x h).elim (hx x) id
    rw [y2a, e]
    cases b with
    | false => exact ⟨false, A1, rfl, h3, hx1, fun q => by cases q⟩
    | true =>
      obtain ⟨b', A', e', g1, g2, g3⟩ := y60 hN hk r A1 (fun m hm => hr m (List.mem_cons_of_mem _ hm)) h3 hx1
      refine ⟨b', A', e', g1, g2, fun hb => ⟨fun x hx => (g3 hb).1 x (h4.key hx), fun x hx => ?_⟩⟩
      rcases List.mem_cons.1 hx with rfl | hx
      · exact (g3 hb).1 x (h5 rfl)
      · exact (g3 hb).2 x hx
end
def sStr : Txt := [83, 116, 114, 105, 110, 103]
def sSys : Txt := [83, 121, 115]
def ownL : List (Txt × Txt) := [(sObj, []), (sStr, sObj), (sSys, sObj), ([84, 104, 114, 111, 119, 97, 98, 108, 101], sObj), ([69, 120, 99, 101, 112, 116, 105, 111, 110], [84, 104, 114, 111, 119, 97, 98, 108, 101]),
  ([78, 117, 108, 108, 70, 97, 117, 108, 116], [69, 120, 99, 101, 112, 116, 105, 111, 110]), ([90, 101, 114, 111, 70, 97, 117, 108, 116], [69, 120, 99, 101, 112, 116, 105, 111, 110]), ([66, 111, 117, 110, 100, 115, 70, 97, 117, 108, 116], [69, 120, 99, 101, 112, 116, 105, 111, 110]),
  ([83, 105, 122, 101, 70, 97, 117, 108, 116], [69, 120, 99, 101, 112, 116, 105, 111, 110]), ([67, 97, 115, 116, 70, 97, 117, 108, 116], [69, 120, 99, 101, 112, 116, 105, 111, 110]), ([83, 116, 111, 114, 101, 70, 97, 117, 108, 116], [69, 120, 99, 101, 112, 116, 105, 111, 110]),
  ([77, 101, 109, 111, 114, 121, 70, 97, 117, 108, 116], [84, 104, 114, 111, 119, 97, 98, 108, 101]), ([68, 101, 112, 116, 104, 70, 97, 117, 108, 116], [84, 104, 114, 111, 119, 97, 98, 108, 101])]
abbrev yp1 (fl : Int) (n d : Txt) : Mth := ⟨fl, n, d, 0, 0, none, none, none⟩
def yel (n : Txt) : Option (List Mth) :=
  if n = sSys then some [yp1 8 [112, 114, 105, 110, 116] [40, 73, 41, 86], yp1 8 [112, 114, 105, 110, 116] [40, 74, 41, 86], yp1 8 [112, 114, 105, 110, 116] [40, 76, 83, 116, 114, 105, 110, 103, 59, 41, 86], yp1 8 [101, 120, 105, 116] [40, 73, 41, 86]]
  else if n = sStr then some [yp1 0 [108, 101, 110, 103, 116, 104] [40, 41, 73], yp1 0 [99, 104, 97, 114, 65, 116] [40, 73, 41, 73]]
  else none
def ownC (p : Txt × Txt) : Cls := ⟨0, p.1, p.2, none, none, none, yel p.1⟩
def y26 : CTab := ownL.map fun p => (p.1, ownC p)
def y1s (C : CTab) : List Cls → Option CTab
  | [] => some C
  | c :: r => if (tlook C c.nm).isSome then none else y1s (C ++ [(c.nm, c)]) r
def ype (n : Int) : Int := IntKind.wrap .i64 (BitVec.ofInt (IntKind.bits .i64) n &&& BitVec.ofInt (IntKind.bits .i64) 512).toNat
def ifB (c : Cls) : Bool := decide (ype c.fl ≠ 0)
def ifsB (C : CTab) : List Tx → List Tx → Bool
  | _, [] => true
  | pre, s :: r => (match tlook C s.s with
    | some p => ifB p
    | none => false) && !(pre.any fun x => decide (x.s = s.s)) && ifsB C (pre ++ [s]) r
def parB (C : CTab) (c : Cls) : Bool := match tlook C c.sup with
  | some p => !(ifB p || decide (c.sup = sStr) || decide (c.sup = sSys) || (ifB c && decide (c.sup ≠ sObj))) && ifsB C [] (lst c.ifs)
  | none => false
def newM (l : List Cls) : Except Int (CTab × ATab) :=
  if 40 < l.length then .error 2 else if l.all (fun c => y7x false c.nm) = false then .error 20 else
  match y1s y26 l with
  | none => .error 23
  | some C => if l.all (parB C) = false then .error 50 else
    match y2a (upC C) (C.length + 1) (ckeys C) [] with
    | some (true, A) => .ok (C, A)
    | _ => .error 51
theorem y8w : ∀ (l : List Cls) (C C' : CTab), y1s C l = some C' → ∃ M, C' = C ++ M ∧ (∀ n c, (n, c) ∈ M → c ∈ l ∧ n = c.nm) ∧ ∀ c ∈ l, tlook C' c.nm = some c
  | [], C, C', h => by
    injection h with h
    subst h
    refine ⟨[], (List.append_nil C).symm, fun n c h => ?_, fun c h => ?_⟩
    · cases h
    · cases h
  | c :: r, C, C', h => by
    rw [y1s] at h
    split at h
    · cases h
    · rename_i hc
      have hn : tlook C c.nm = none := by simpa using hc
      obtain ⟨M, e, h1, h2⟩ := y8w r _ C' h
      refine ⟨(c.nm, c) :: M, by rw [e, List.append_assoc]; rfl, fun n d hd => ?_, fun d hd => ?_⟩
      · rcases List.mem_cons.1 hd with hd | hd
        · injection hd with a b
          subst a; subst b
          exact ⟨List.mem_cons_self, rfl⟩
        · obtain ⟨a, b⟩ := h1 n d hd
          exact ⟨List.mem_cons_of_mem _ a, b⟩
      · rcases List.mem_cons.1 hd with rfl | hd
        · rw [e]
          refine ybg ?_
          unfold tlook at hn ⊢
          rw [List.find?_append]
          cases hf : C.find? fun p => decide (p.1 = d.nm) with
          | some p => rw [hf] at hn; cases hn
          | none => simp
        · exact h2 d hd
theorem yo1 {C : CTab} : ∀ {l pre : List Tx}, ifsB C pre l = true → ∀ s ∈ l, ∃ p, tlook C s.s = some p
  | [], _, _, s, hs => by cases hs
  | a :: l, pre, h, s, hs => by
    rw [ifsB] at h
    simp only [Bool.and_eq_true] at h
    rcases List.mem_cons.1 hs with rfl | hs
    · cases hl : tlook C s.s with
      | none => rw [hl] at h; cases h.1.1
      | some p => exact ⟨p, rfl⟩
    · exact yo1 h.2 s hs
theorem yoc : ∀ p ∈ ownL, p.2 = [] ∨ p.2 ∈ ownL.map (·.1) := by decide
theorem y137 : ckeys y26 = ownL.map (·.1) := by decide
structure TOk (C : CTab) (A : ATab) : Prop where
  ok : AOk (upC C) A
  keys : ∀ n c, tlook C n = some c → n ∈ akeys A
  obj : upC C sObj = []
  top : ∀ n ∈ akeys A, n = sObj ∨ upC C n ≠ []
theorem yap {l : List Cls} {C : CTab} (hn : l.all (fun c => y7x false c.nm) = true) (hC : y1s y26 l = some C) (hp : l.all (parB C) = true) :
    (∀ n ∈ ckeys C, ∀ s ∈ upC C n, s ∈ ckeys C) ∧ upC C sObj = [] ∧ ∀ n ∈ ckeys C, n = sObj ∨ upC C n ≠ [] := by
  obtain ⟨M, e, h1, h2⟩ := y8w l y26 C hC
  have key : ∀ {n : Txt} {p : Cls}, tlook C n = some p → n ∈ ckeys C := fun h => y7z.2 ⟨_, h⟩
  have nm : ∀ n ∈ ckeys C, n ≠ [] := by
    intro n hn' e0
    rw [e] at hn'
    unfold ckeys at hn'
    rw [List.map_append, List.mem_append] at hn'
    rcases hn' with h | h
    · rw [show y26.map (·.1) = ownL.map (·.1) from y137, e0] at h
      revert h
      decide
    · obtain ⟨⟨m, c⟩, hm, rfl⟩ := List.mem_map.1 h
      obtain ⟨a, b⟩ := h1 m c hm
      have := List.all_eq_true.1 hn c a
      simp only at e0
      rw [← b, e0] at this
      revert this
      decide
  have cases_ : ∀ n c, tlook C n = some c → (∃ p ∈ ownL, c = ownC p ∧ n = p.1) ∨ (c ∈ l ∧ n = c.nm) := by
    intro n c h
    have := yav h
    rw [e, List.mem_append] at this
    rcases this with h | h
    · obtain ⟨p, hp, hq⟩ := List.mem_map.1 h
      injection hq with a b
      exact .inl ⟨p, hp, b.symm, a.symm⟩
    · exact .inr (h1 n c h)
  have own0 : ∀ p ∈ ownL, upOf (ownC p) = if p.2 = [] then [] else [p.2] := fun p _ => rfl
  have hsup : ∀ c ∈ l, ∃ p, tlook C c.sup = some p := by
    intro c hc
    have := List.all_eq_true.1 hp c hc
    unfold parB at this
    cases hl : tlook C c.sup with
    | none => rw [hl] at this; cases this
    | some p => exact ⟨p, rfl⟩
  have hifs : ∀ c ∈ l, ∀ s ∈ lst c.ifs, ∃ p, tlook C s.s = some p := by
    intro c hc
    have := List.all_eq_true.1 hp c hc
    unfold parB at this
    cases hl : tlook C c.sup with
    | none => rw [hl] at this; cases this
    | some p =>
      rw [hl] at this
      simp only [Bool.and_eq_true] at this
      exact yo1 this.2
  have oso : tlook C sObj = some (ownC (sObj, [])) := by
    rw [e]
    exact ybg rfl
  refine ⟨fun n hn' s hs => ?_, ?_, fun n hn' => ?_⟩
  · obtain ⟨c, hc⟩ := y7z.1 hn'
    have hu : upC C n = upOf c := by unfold upC; rw [show clook C n = tlook C n from rfl, hc]
    rw [hu] at hs
    rcases cases_ n c hc with ⟨p, hp, rfl, _⟩ | ⟨hcl, _⟩
    · rw [own0 p hp] at hs
      have hcl := yoc p hp
      split at hs
      · cases hs
      · rename_i hne
        rw [List.mem_singleton] at hs
        subst hs
        rcases hcl with h | h
        · exact (hne h).elim
        · rw [e]
          unfold ckeys
          rw [List.map_append]
          exact List.mem_append_left _ (by rw [show y26.map (·.1) = ownL.map (·.1) from y137]; exact h)
    · unfold upOf at hs
      rcases List.mem_append.1 hs with hs | hs
      · obtain ⟨t, ht, rfl⟩ := List.mem_map.1 hs
        obtain ⟨p, hp⟩ := hifs c hcl t ht
        exact key hp
      · split at hs
        · cases hs
        · rw [List.mem_singleton] at hs
          subst hs
          obtain ⟨p, hp⟩ := hsup c hcl
          exact key hp
  · unfold upC
    rw [show clook C sObj = tlook C sObj from rfl, oso]
    rfl
  · obtain ⟨c, hc⟩ := y7z.1 hn'
    have hu : upC C n = upOf c := by unfold upC; rw [show clook C n = tlook C n from rfl, hc]
    rcases cases_ n c hc with ⟨p, hp, rfl, rfl⟩ | ⟨hcl, _⟩
    · rw [hu, own0 p hp]
      have : ∀ p ∈ ownL, p.1 = sObj ∨ p.2 ≠ [] := by decide
      rcases this p hp with h | h
      · exact .inl h
      · rw [if_neg h]; exact .inr (by simp)
    · right
      rw [hu]
      obtain ⟨p, hp⟩ := hsup c hcl
      have hne := nm _ (key hp)
      unfold upOf
      rw [if_neg hne]
      simp
theorem y1bs {l : List Cls} {C : CTab} {A : ATab} (h : newM l = .ok (C, A)) : TOk C A ∧ y1s y26 l = some C := by
  unfold newM at h
  split at h
  · cases h
  split at h
  · cases h
  rename_i hn
  have hn : l.all (fun c => y7x false c.nm) = true := by simpa using hn
  cases ha : y1s y26 l with
  | none => rw [ha] at h; cases h
  | some C' =>
    rw [ha] at h
    simp only at h
    split at h
    · cases h
    rename_i hp
    have hp : l.all (parB C') = true := by simpa using hp
    obtain ⟨h1, h2, h3⟩ := yap hn ha hp
    obtain ⟨b, A', e, g1, g2, g3⟩ := y60 (N := ckeys C') (k := C'.length + 1) h1 (by simp [ckeys]) (ckeys C') [] (fun _ h => h) .nil (by intro x h; cases h)
    rw [e] at h
    cases b with
    | false => cases h
    | true =>
      simp only [Except.ok.injEq, Prod.mk.injEq] at h
      obtain ⟨rfl, rfl⟩ := h
      exact ⟨⟨g1, fun n c hc => (g3 rfl).2 n (y7z.2 ⟨c, hc⟩), h2, fun n hn => h3 n (g2 n hn)⟩, rfl⟩
end Go.Vm
namespace Go.Vm
theorem y160 {x : Txt} {S : List Txt} (h : S.Nodup) : (sput x S).Nodup := by
  unfold sput
  split
  · exact h
  · rename_i hx
    exact List.nodup_append.2 ⟨h, by simp, fun a ha b hb => by simp at hb; subst hb; exact fun e => hx (e ▸ ha)⟩
theorem ymv : ∀ {T S : List Txt}, S.Nodup → (sjoin S T).Nodup
  | [], S, h => h
  | x :: T, S, h => by
    have := ymv (T := T) (y160 (x := x) h)
    exact this
def y8m (A : ATab) : Prop := ∀ p ∈ A, p.2.Nodup
theorem yhf {f : Txt → ATab → List Txt → Option (Bool × ATab × List Txt)} (hf : ∀ n A O b A' O', f n A O = some (b, A', O') → y8m A → y8m A') :
    ∀ (r : List Txt) (A : ATab) (O S : List Txt) (b : Bool) (A' : ATab) (O' S' : List Txt), climbs f r A O S = some (b, A', O', S') → y8m A → S.Nodup → y8m A' ∧ S'.Nodup
  | [], A, O, S, b, A', O', S', h, hA, hS => by
    simp only [climbs, Option.some.injEq, Prod.mk.injEq] at h
    obtain ⟨rfl, rfl, rfl, rfl⟩ := h
    exact ⟨hA, hS⟩
  | s :: r, A, O, S, b, A', O', S', h, hA, hS => by
    rw [climbs] at h
    cases hs : f s A O with
    | none => rw [hs] at h; cases h
    | some p =>
      obtain ⟨c, A1, O1⟩ := p
      rw [hs] at h
      have h1 := hf _ _ _ _ _ _ hs hA
      cases c with
      | false =>
        simp only [Option.some.injEq, Prod.mk.injEq] at h
        obtain ⟨rfl, rfl, rfl, rfl⟩ := h
        exact ⟨h1, hS⟩
      | true => exact yhf hf r A1 O1 _ b A' O' S' h h1 (ymv hS)
theorem yfs {up : Txt → List Txt} : ∀ (k : Nat) (n : Txt) (A : ATab) (O : List Txt) (b : Bool) (A' : ATab) (O' : List Txt), y3d up k n A O = some (b, A', O') → y8m A → y8m A'
  | 0, _, _, _, _, _, _, h, _ => by cases h
  | k + 1, n, A, O, b, A', O', h, hA => by
    rw [y3d] at h
    split at h
    · simp only [Option.some.injEq, Prod.mk.injEq] at h
      obtain ⟨rfl, rfl, rfl⟩ := h
      exact hA
    · split at h
      · simp only [Option.some.injEq, Prod.mk.injEq] at h
        obtain ⟨rfl, rfl, rfl⟩ := h
        exact hA
      · cases hc : climbs (y3d up k) (up n) A (O ++ [n]) [n] with
        | none => rw [hc] at h; cases h
        | some p =>
          obtain ⟨c, A1, O1, S1⟩ := p
          rw [hc] at h
          obtain ⟨h1, h2⟩ := yhf (fun n A O b A' O' => yfs k n A O b A' O') _ _ _ _ _ _ _ _ hc hA (by simp)
          cases c with
          | false =>
            simp only [Option.some.injEq, Prod.mk.injEq] at h
            obtain ⟨rfl, rfl, rfl⟩ := h
            exact h1
          | true =>
            simp only [Option.some.injEq, Prod.mk.injEq] at h
            obtain ⟨rfl, rfl, rfl⟩ := h
            intro p hp
            rcases List.mem_append.1 hp with hp | hp
            · exact h1 p hp
            · rw [List.mem_singleton] at hp
              subst hp
              exact h2
theorem yas {up : Txt → List Txt} {k : Nat} : ∀ (r : List Txt) (A : ATab) (b : Bool) (A' : ATab), y2a up k r A = some (b, A') → y8m A → y8m A'
  | [], A, b, A', h, hA => by
    simp only [y2a, Option.some.injEq, Prod.mk.injEq] at h
    obtain ⟨rfl, rfl⟩ := h
    exact hA
  | n :: r, A, b, A', h, hA => by
    rw [y2a] at h
    cases hc : y3d up k n A [] with
    | none => rw [hc] at h; cases h
    | some p =>
      obtain ⟨c, A1, O1⟩ := p
      rw [hc] at h
      have h1 := yfs _ _ _ _ _ _ _ hc hA
      cases c with
      | false =>
        simp only [Option.some.injEq, Prod.mk.injEq] at h
        obtain ⟨rfl, rfl⟩ := h
        exact h1
      | true => exact yas r A1 b A' h h1
theorem yea : ∀ (l : List Cls) (C C' : CTab), y1s C l = some C' → C'.length = C.length + l.length
  | [], C, C', h => by injection h with h; subst h; rfl
  | c :: r, C, C', h => by
    rw [y1s] at h
    split at h
    · cases h
    · rw [yea r _ C' h]
      simp
      omega
structure TNd (C : CTab) (A : ATab) : Prop where
  keys : ∀ n ∈ akeys A, n ∈ ckeys C
  nd : y8m A
  len : C.length ≤ 53
  up : ∀ n ∈ ckeys C, ∀ s ∈ upC C n, s ∈ ckeys C
theorem y1dj {l : List Cls} {C : CTab} {A : ATab} (h : newM l = .ok (C, A)) : TNd C A := by
  unfold newM at h
  split at h
  · cases h
  rename_i h40
  split at h
  · cases h
  rename_i hn
  have hn : l.all (fun c => y7x false c.nm) = true := by simpa using hn
  cases ha : y1s y26 l with
  | none => rw [ha] at h; cases h
  | some C' =>
    rw [ha] at h
    simp only at h
    split at h
    · cases h
    rename_i hp
    have hp : l.all (parB C') = true := by simpa using hp
    obtain ⟨h1, h2, h3⟩ := yap hn ha hp
    obtain ⟨b, A', e, g1, g2, g3⟩ := y60 (N := ckeys C') (k := C'.length + 1) h1 (by simp [ckeys]) (ckeys C') [] (fun _ h => h) .nil (by intro x h; cases h)
    rw [e] at h
    cases b with
    | false => cases h
    | true =>
      simp only [Except.ok.injEq, Prod.mk.injEq] at h
      obtain ⟨rfl, rfl⟩ := h
      refine ⟨g2, yas _ _ _ _ e (fun p hp => by cases hp), ?_, h1⟩
      have := yea _ _ _ ha
      have e0 : y26.length = 13 := rfl
      omega
theorem yvd {α : Type} [DecidableEq α] : ∀ {l m : List α}, l.Nodup → (∀ x ∈ l, x ∈ m) → l.length ≤ m.length
  | [], m, _, _ => by simp
  | x :: l, m, hn, hs => by
    have hx := hs x List.mem_cons_self
    rw [List.nodup_cons] at hn
    have := yvd (l := l) (m := m.erase x) hn.2 fun y hy => (List.mem_erase_of_ne (fun e => hn.1 (by rw [← e]; exact hy))).2 (hs y (List.mem_cons_of_mem _ hy))
    rw [List.length_erase_of_mem hx] at this
    have := List.length_pos_of_mem hx
    simp only [List.length_cons]
    omega
theorem TNd.small {C : CTab} {A : ATab} (T : TNd C A) (K : AOk (upC C) A) {n : Txt} {S : List Txt} (h : (n, S) ∈ A) : S.length ≤ 53 := by
  have h1 := yvd (T.nd _ h) (m := ckeys C) fun x hx => by
    obtain ⟨U, hU, _⟩ := K.trans h hx
    exact T.keys _ (yfe hU)
  have : (ckeys C).length = C.length := List.length_map _
  have := T.len
  simp only at h1
  omega
end Go.Vm
namespace Go.Vm
open Cel
structure KAt where
  t : Nat
  gt : Nat
  c : Nat
  gc : Nat
  a : Nat
  ga : Nat
  o : Nat
  go : Nat
  nv : AV
abbrev PTab := List (Txt × (Nat × Nat))
abbrev lmV (p : Nat × Nat) : AV := .lm p.1 p.2
def y1d8 (H : Heap) (p : Txt × (Nat × Nat)) (q : Txt × List Txt) : Prop := p.1 = q.1 ∧ ∃ fz, H[p.2.1]? = some ⟨p.2.2, .map fz (sE q.2)⟩
inductive SetsAt (H : Heap) : PTab → ATab → Prop
  | nil : SetsAt H [] []
  | cons {p : Txt × (Nat × Nat)} {q : Txt × List Txt} {P : PTab} {A : ATab} : y1d8 H p q → SetsAt H P A → SetsAt H (p :: P) (q :: A)
theorem SetsAt.mono {H H' : Heap} {P : PTab} {A : ATab} (h : SetsAt H P A) (hh : ∀ p ∈ P, ∀ g fz es, H[p.2.1]? = some ⟨g, .map fz es⟩ → ∃ fz', H'[p.2.1]? = some ⟨g, .map fz' es⟩) : SetsAt H' P A := by
  induction h with
  | nil => exact .nil
  | @cons p q P A h1 _ ih =>
    obtain ⟨e, fz, h2⟩ := h1
    obtain ⟨fz', h3⟩ := hh p List.mem_cons_self _ _ _ h2
    exact .cons ⟨e, fz', h3⟩ (ih fun p hp => hh p (List.mem_cons_of_mem _ hp))
theorem SetsAt.snoc {H : Heap} {P : PTab} {A : ATab} (h : SetsAt H P A) {p : Txt × (Nat × Nat)} {q : Txt × List Txt} (h1 : y1d8 H p q) : SetsAt H (P ++ [p]) (A ++ [q]) := by
  induction h with
  | nil => exact .cons h1 .nil
  | cons h2 _ ih => exact .cons h2 ih
theorem SetsAt.look {H : Heap} {P : PTab} {A : ATab} (h : SetsAt H P A) (n : Txt) : (tlook P n = none ∧ tlook A n = none) ∨ ∃ id g fz S, tlook P n = some (id, g) ∧ tlook A n = some S ∧ H[id]? = some ⟨g, .map fz (sE S)⟩ ∧ (n, (id, g)) ∈ P := by
  induction h with
  | nil => exact .inl ⟨rfl, rfl⟩
  | @cons p q P A h1 _ ih =>
    obtain ⟨e, fz, h2⟩ := h1
    obtain ⟨m, id, g⟩ := p
    obtain ⟨m', S⟩ := q
    simp only at e h2
    subst e
    unfold tlook at ih ⊢
    simp only [List.find?_cons]
    by_cases hm : m = n
    · subst hm
      simp only [decide_true, Option.map_some]
      exact .inr ⟨id, g, fz, S, rfl, rfl, h2, List.mem_cons_self⟩
    · simp only [hm, decide_false]
      rcases ih with h | ⟨id', g', fz', S', a, b, c, d⟩
      · exact .inl h
      · exact .inr ⟨id', g', fz', S', a, b, c, List.mem_cons_of_mem _ d⟩
theorem SetsAt.lt {H : Heap} {P : PTab} {A : ATab} (h : SetsAt H P A) : ∀ p ∈ P, p.2.1 < H.length := by
  induction h with
  | nil => intro p hp; cases hp
  | @cons p q P A h1 _ ih =>
    obtain ⟨e, fz, h2⟩ := h1
    intro x hx
    rcases List.mem_cons.1 hx with rfl | hx
    · exact yz h2
    · exact ih x hx
structure KRep (K : KAt) (C : CTab) (H : Heap) (P : PTab) (A : ATab) (O : List Txt) : Prop where
  tree : H[K.t]? = some ⟨K.gt, .arr true false 3 [[.lm K.c K.gc, K.nv, .lm K.a K.ga]]⟩
  cls : H[K.c]? = some ⟨K.gc, .map false (tE cV C)⟩
  ab : H[K.a]? = some ⟨K.ga, .map false (tE lmV P)⟩
  op : H[K.o]? = some ⟨K.go, .map false (sE O)⟩
  sets : SetsAt H P A
  dif : K.t ≠ K.a ∧ K.t ≠ K.o ∧ K.c ≠ K.a ∧ K.c ≠ K.o ∧ K.a ≠ K.o
  far : ∀ p ∈ P, p.2.1 ≠ K.t ∧ p.2.1 ≠ K.c ∧ p.2.1 ≠ K.a ∧ p.2.1 ≠ K.o
section
variable {K : KAt} {C : CTab} {H : Heap} {P : PTab} {A : ATab} {O : List Txt}
theorem KRep.more (R : KRep K C H P A O) (n : Nat) : KRep K C (H ++ yg n) P A O :=
  ⟨by rw [yoe (yz R.tree)]; exact R.tree, by rw [yoe (yz R.cls)]; exact R.cls, by rw [yoe (yz R.ab)]; exact R.ab, by rw [yoe (yz R.op)]; exact R.op,
    R.sets.mono fun p _ g fz es h => ⟨fz, by rw [yoe (yz h)]; exact h⟩, R.dif, R.far⟩
structure OffK (K : KAt) (P : PTab) (x : Nat) : Prop where
  t : x ≠ K.t
  c : x ≠ K.c
  a : x ≠ K.a
  o : x ≠ K.o
  p : ∀ p ∈ P, p.2.1 ≠ x
theorem KRep.other (R : KRep K C H P A O) {x : Nat} {v : AO} (hx : OffK K P x) : KRep K C (H.set x v) P A O :=
  ⟨by rw [yi hx.t]; exact R.tree, by rw [yi hx.c]; exact R.cls, by rw [yi hx.a]; exact R.ab, by rw [yi hx.o]; exact R.op,
    R.sets.mono fun p hp g fz es h => ⟨fz, by rw [yi (fun e => hx.p p hp e.symm)]; exact h⟩, R.dif, R.far⟩
theorem KRep.opened (R : KRep K C H P A O) (n : Txt) : KRep K C (H.set K.o ⟨K.go, .map false (sE (sput n O))⟩) P A (sput n O) := by
  obtain ⟨_, d2, _, d4, d5⟩ := R.dif
  exact ⟨by rw [yi d2.symm]; exact R.tree, by rw [yi d4.symm]; exact R.cls, by rw [yi d5.symm]; exact R.ab, y22 (yz R.op),
    R.sets.mono fun p hp g fz es h => ⟨fz, by rw [yi (R.far p hp).2.2.2.symm]; exact h⟩, R.dif, R.far⟩
theorem KRep.frozen (R : KRep K C H P A O) {id g : Nat} {n : Txt} {fz : Bool} {es : List (AV × AV)} (hp : (n, (id, g)) ∈ P) (h : H[id]? = some ⟨g, .map fz es⟩) : KRep K C (H.set id ⟨g, .map true es⟩) P A O := by
  obtain ⟨f1, f2, f3, f4⟩ := R.far _ hp
  refine ⟨by rw [yi f1]; exact R.tree, by rw [yi f2]; exact R.cls, by rw [yi f3]; exact R.ab, by rw [yi f4]; exact R.op, R.sets.mono fun p hp' g' fz' es' h' => ?_, R.dif, R.far⟩
  by_cases e : id = p.2.1
  · rw [← e] at h' ⊢
    rw [h] at h'
    injection h' with h'
    injection h' with h1 h2
    injection h2 with h2 h3
    subst h1; subst h3
    exact ⟨true, y22 (yz h)⟩
  · exact ⟨fz', by rw [yi e]; exact h'⟩
theorem KRep.push (R : KRep K C H P A O) {n : Txt} {id g : Nat} {S : List Txt} (h : H[id]? = some ⟨g, .map false (sE S)⟩) (hf : id ≠ K.t ∧ id ≠ K.c ∧ id ≠ K.a ∧ id ≠ K.o) :
    KRep K C (H.set K.a ⟨K.ga, .map false (tE lmV (P ++ [(n, (id, g))]))⟩) (P ++ [(n, (id, g))]) (A ++ [(n, S)]) O := by
  obtain ⟨d1, _, d3, _, d5⟩ := R.dif
  refine ⟨by rw [yi d1.symm]; exact R.tree, by rw [yi d3.symm]; exact R.cls, y22 (yz R.ab), by rw [yi d5]; exact R.op,
    (R.sets.mono fun p hp g' fz es h' => ⟨fz, by rw [yi (R.far p hp).2.2.1.symm]; exact h'⟩).snoc ⟨rfl, false, by rw [yi hf.2.2.1.symm]; exact h⟩, R.dif, fun p hp => ?_⟩
  rcases List.mem_append.1 hp with hp | hp
  · exact R.far p hp
  · rw [List.mem_singleton] at hp
    subst hp
    exact hf
end
theorem ywy (x y : Txt) (S : List Txt) : (sput y (sput x S)).Perm (sput x (sput y S)) := by
  by_cases e : x = y
  · subst e; exact .refl _
  by_cases hx : x ∈ S
  · have h1 : sput x S = S := if_pos hx
    have h2 : x ∈ sput y S := yej.2 (.inr hx)
    rw [h1, show sput x (sput y S) = sput y S from if_pos h2]
  · by_cases hy : y ∈ S
    · have h1 : sput y S = S := if_pos hy
      have h2 : y ∈ sput x S := yej.2 (.inr hy)
      rw [h1, show sput y (sput x S) = sput x S from if_pos h2]
    · have h1 : sput x S = S ++ [x] := if_neg hx
      have h2 : sput y S = S ++ [y] := if_neg hy
      have h3 : sput y (S ++ [x]) = (S ++ [x]) ++ [y] := if_neg (by simp only [List.mem_append, List.mem_singleton, hy, false_or]; exact fun q => e q.symm)
      have h4 : sput x (S ++ [y]) = (S ++ [y]) ++ [x] := if_neg (by simp [hx, e])
      rw [h1, h2, h3, h4, List.append_assoc, List.append_assoc]
      exact List.Perm.append_left S (.swap ..)
theorem yvj {x : Txt} {S S' : List Txt} (h : S.Perm S') : (sput x S).Perm (sput x S') := by
  unfold sput
  by_cases hx : x ∈ S
  · rw [if_pos hx, if_pos (h.mem_iff.1 hx)]; exact h
  · rw [if_neg hx, if_neg (fun q => hx (h.mem_iff.2 q))]; exact h.append_right _
theorem ybi : ∀ {T S S' : List Txt}, S.Perm S' → (sjoin S T).Perm (sjoin S' T)
  | [], _, _, h => h
  | x :: T, S, S', h => ybi (T := T) (yvj (x := x) h)
theorem you {T T' : List Txt} (h : T.Perm T') : ∀ S, (sjoin S T).Perm (sjoin S T') := by
  induction h with
  | nil => intro S; exact .refl _
  | cons x _ ih => intro S; exact ih (sput x S)
  | swap x y l => intro S; exact ybi (T := l) (ywy y x S)
  | trans _ _ ih1 ih2 => intro S; exact (ih1 S).trans (ih2 S)
theorem ypi (S T : List Txt) (x : Txt) : sjoin S (T ++ [x]) = sput x (sjoin S T) := by
  simp [sjoin]
theorem y1cx {s : List Txt} : ∀ {π : List (AV × AV)}, π.Perm (sE s) → ∃ l : List Txt, l.Perm s ∧ π = sE l := by
  intro π hp
  have h0 : All2 (fun (a : Txt) (b : AV × AV) => b = ((.str a : AV), (.bool true : AV))) s (sE s) := .of (by simp [sE]) fun i a b h1 h2 => by
    rw [sE, List.getElem?_map, h1] at h2
    simpa using h2.symm
  obtain ⟨q, h1, h2⟩ := yg8 hp.symm h0
  refine ⟨q, h1, List.ext_getElem? fun i => ?_⟩
  rw [sE, List.getElem?_map]
  cases ha : q[i]? with
  | none =>
    rw [List.getElem?_eq_none (by rw [← h2.length]; exact List.getElem?_eq_none_iff.1 ha)]
    rfl
  | some a =>
    have hi := (List.getElem?_eq_some_iff.1 ha).1
    have hp2 : i < π.length := by rw [← h2.length]; exact hi
    have hb : π[i]? = some π[i] := List.getElem?_eq_getElem hp2
    rw [hb, h2.get ha hb]; rfl
theorem ykq (k : Nat) (H : Heap) : ∀ s : List Txt, yb (y62 H (k + 1)) (sE s) = some ⟨sE s, true, []⟩
  | [] => rfl
  | c :: s => by
    have ih := ykq k H s
    have e1 : y62 H (k + 1) (.str c, .bool true) = some ⟨(.str c, .bool true), true, []⟩ := rfl
    simp only [sE, List.map_cons] at ih ⊢
    rw [yr, e1, ih]
    rfl
theorem y13b {H : Heap} {id g : Nat} {fz' : Bool} {s : List Txt} (k : Nat) (h : H[id]? = some ⟨g, .map fz' (sE s)⟩) : fz H (k + 2) (.lm id g) = some ⟨.rm (sE s), true, [id]⟩ := by
  have e := ykq k H s
  have e2 : fz H (k + 2) (.lm id g) = match y2f H id g with
      | some (_, es) => match yb (y62 H (k + 1)) es with
        | some r => some ⟨.rm r.v, r.fresh, id :: r.ids⟩
        | none => none
      | none => none := rfl
  have hm : y2f H id g = some (fz', sE s) := by simp [y2f, y1p, h]
  rw [e2, hm]
  simp only [e]
theorem yp0 {H : Heap} {id g : Nat} {fz' : Bool} {es : List (AV × AV)} (h : H[id]? = some ⟨g, .map fz' es⟩) : yf [id] H = H.set id ⟨g, .map true es⟩ := by
  simp only [yf, h]
theorem y1df {α : Type} {step : AV × AV → Heap → Option Heap} {H : Heap} {id g : Nat} {fz' : Bool} {s : List Txt} {K : Heap → Option α} (h : H[id]? = some ⟨g, .map fz' (sE s)⟩) (R : List Txt → Heap)
    (h1 : ∀ l : List Txt, l.Perm s → mfold (fun h q => step q h) (sE l) (H.set id ⟨g, .map true (sE s)⟩) = some (R l)) (h2 : ∀ l : List Txt, l.Perm s → ycb (R l) (R s)) :
    orm (.lm id g) step H K = K (R s) := by
  have e : yac H (.lm id g) = some (sE s, [id]) := by
    have := y13b 10 h
    rw [show 10 + 2 = yu from rfl] at this
    simp only [yac, this]
  simp only [orm, e, yp0 h]
  have : mall ycb (fun h q => step q h) some (sE s) (H.set id ⟨g, .map true (sE s)⟩) = some (R s) := by
    refine yqx (h1 s (.refl s)) fun π hp => ?_
    obtain ⟨l, hl, rfl⟩ := y1cx hp
    exact ⟨R l, h1 l hl, h2 l hl⟩
  rw [this]
theorem yxe {step : Heap → AV × AV → Option Heap} (R : List Txt → Heap) (hs : ∀ (l : List Txt) (c : Txt), step (R l) (.str c, .bool true) = some (R (l ++ [c]))) : ∀ (l m : List Txt), mfold step (sE l) (R m) = some (R (m ++ l))
  | [], m => by rw [List.append_nil]; rfl
  | c :: l, m => by
    have ih := yxe R hs l (m ++ [c])
    simp only [sE, List.map_cons] at ih ⊢
    rw [mfold, hs]
    simp only
    rw [ih, List.append_assoc]
    rfl
theorem y126 {α : Type} {step : AV × AV → Heap → Option Heap} {H : Heap} {id g x gx : Nat} {fz' : Bool} {T S : List Txt} {K : Heap → Option α} (h : H[id]? = some ⟨g, .map fz' (sE T)⟩) (hx : H[x]? = some ⟨gx, .map false (sE S)⟩) (hd : id ≠ x)
    (hs : ∀ (H' : Heap) (S' : List Txt) (c : Txt), H'[x]? = some ⟨gx, .map false (sE S')⟩ → step (.str c, .bool true) H' = some (H'.set x ⟨gx, .map false (sE (sput c S'))⟩)) :
    orm (.lm id g) step H K = K ((H.set id ⟨g, .map true (sE T)⟩).set x ⟨gx, .map false (sE (sjoin S T))⟩) := by
  have hx1 : (H.set id ⟨g, .map true (sE T)⟩)[x]? = some ⟨gx, .map false (sE S)⟩ := by rw [yi hd]; exact hx
  have e0 : (H.set id ⟨g, .map true (sE T)⟩).set x ⟨gx, .map false (sE (sjoin S []))⟩ = H.set id ⟨g, .map true (sE T)⟩ := y11c hx1
  refine y1df h (fun l => (H.set id ⟨g, .map true (sE T)⟩).set x ⟨gx, .map false (sE (sjoin S l))⟩) (fun l _ => ?_) (fun l hl i => ?_)
  · have := yxe (step := fun h q => step q h) (fun l => (H.set id ⟨g, .map true (sE T)⟩).set x ⟨gx, .map false (sE (sjoin S l))⟩) (fun l c => by
      rw [hs _ (sjoin S l) c (y22 (yz hx1)), List.set_set, ypi]) l []
    simp only [e0, List.nil_append] at this
    exact this
  · by_cases e : x = i
    · subst e
      rw [y22 (yz hx1), y22 (yz hx1)]
      exact ⟨rfl, .inr ⟨false, _, _, rfl, rfl, (you hl S).map _⟩⟩
    · rw [yi e, yi e]
      exact yu3.refl _
end Go.Vm
namespace Go.Vm
open Cel
abbrev AC (g : Nat) (c : Cls) : AO := ⟨g, .arr true false 7 [enc c]⟩
abbrev zC : Cls := ⟨0, [], [], none, none, none, none⟩
theorem y14c {H : Heap} {fb j : Nat} {o : AO} (h : H[fb + j]? = some o) : mkmC fb (some j) H = some (.lm (fb + j) (o.gen + 1), H.set (fb + j) ⟨o.gen + 1, .map false []⟩) := by
  simp [mkmC, place, h]
theorem y9e {H : Heap} {fb j : Nat} {o : AO} (h : H[fb + j]? = some o) : newC fb (some j) zCls H = some (.lp (fb + j) (o.gen + 1) 0 0, H.set (fb + j) (AC (o.gen + 1) zC)) := by
  simp [newC, y4j, place, h]
  rfl
theorem y12g {H : Heap} {fb j : Nat} {o : AO} (c : Cls) (h : H[fb + j]? = some o) : newC fb (some j) (enc c) H = some (.lp (fb + j) (o.gen + 1) 0 0, H.set (fb + j) (AC (o.gen + 1) c)) := by
  simp [newC, y4j, place, h]
theorem y19e {H : Heap} {id g : Nat} {c d : Cls} {v : AV} (h : H[id]? = some (AC g c)) (hv : cellsOf v = enc d) : evSt 7 (.lp id g 0 0) v H = some (.tup [], H.set id (AC g d)) := by
  have hr : ye H id g = some (false, 7, [enc c]) := by simp [ye, y1p, h]
  rw [yi1, hr]
  simp only [List.getElem?_cons_zero, hv]
  rw [if_pos ⟨rfl, by rw [yhs]; exact Nat.le_refl _, y112 d⟩, yd1 (by rw [yhs, yhs]), y1e, h]
  rfl
theorem ydj {H : Heap} {id g : Nat} {c d : Cls} (h : H[id]? = some (AC g c)) : evSt 7 (.lp id g 0 0) (.agg (enc d)) H = some (.tup [], H.set id (AC g d)) := y19e h rfl
theorem y3t {H : Heap} {id g k : Nat} {c : Cls} {v : AV} (h : H[id]? = some (AC g c)) (hv : ((enc c).drop k).head? = some v) : evLd false 1 (.lp id g 0 k) H = some v := by
  have hr : ye H id g = some (false, 7, [enc c]) := by simp [ye, y1p, h]
  rw [y6z, hr]
  simp only [List.getElem?_cons_zero]
  exact hv
theorem yt8 {H : Heap} {id g : Nat} {c : Cls} (h : H[id]? = some (AC g c)) : evLd true 7 (.lp id g 0 0) H = some (.agg (enc c)) := by
  have hr : ye H id g = some (false, 7, [enc c]) := by simp [ye, y1p, h]
  rw [y6z, hr]
  simp
section
variable {K : KAt} {C : CTab} {H : Heap} {P : PTab} {A : ATab} {O : List Txt}
theorem KRep.ldT (R : KRep K C H P A O) {k : Nat} {v : AV} (hv : ([AV.lm K.c K.gc, K.nv, .lm K.a K.ga].drop k).head? = some v) : evLd false 1 (.lp K.t K.gt 0 k) H = some v := by
  have hr : ye H K.t K.gt = some (false, 3, [[.lm K.c K.gc, K.nv, .lm K.a K.ga]]) := by simp [ye, y1p, R.tree]
  rw [y6z, hr]
  simp only [List.getElem?_cons_zero]
  exact hv
theorem KRep.ldC (R : KRep K C H P A O) : evLd false 1 (.lp K.t K.gt 0 0) H = some (.lm K.c K.gc) := R.ldT rfl
theorem KRep.ldA (R : KRep K C H P A O) : evLd false 1 (.lp K.t K.gt 0 2) H = some (.lm K.a K.ga) := R.ldT rfl
end
def Rest (K : KAt) (P P' : PTab) (H H' : Heap) : Prop := H.length ≤ H'.length ∧ (∀ i < H.length, OffK K P i → H'[i]? = H[i]?) ∧ (∀ p ∈ P', p ∈ P ∨ H.length ≤ p.2.1)
def y13s (K : KAt) (C : CTab) (f : Txt → ATab → List Txt → Option (Bool × ATab × List Txt)) : Prop :=
  ∀ (n : Txt) (A : ATab) (O : List Txt) (b : Bool) (A' : ATab) (O' : List Txt) (H : Heap) (P : PTab) (fb : Nat), f n A O = some (b, A', O') → AOk (upC C) A → KRep K C H P A O →
    ∃ H' P', y7 E (y6 E) fb none false 62 [.lp K.t K.gt 0 0, .str n, .lm K.o K.go] H = some (.bool b, H') ∧ KRep K C H' P' A' O' ∧ Rest K P P' H H'
theorem yg2 {α : Type} {L : List (Txt × α)} {n : Txt} (h : n ∈ L.map (·.1)) : ∃ v, tlook L n = some v := by
  unfold tlook
  cases hf : L.find? fun p => decide (p.1 = n) with
  | some p => exact ⟨p.2, rfl⟩
  | none =>
    obtain ⟨p, hp, rfl⟩ := List.mem_map.1 h
    have := List.find?_eq_none.1 hf p hp
    simp at this
theorem yp8 {α : Type} {L : List (Txt × α)} {n : Txt} (h : n ∉ L.map (·.1)) : tlook L n = none := by
  unfold tlook
  cases hf : L.find? fun p => decide (p.1 = n) with
  | none => rfl
  | some p =>
    have h1 := List.mem_of_find?_eq_some hf
    have h2 := List.find?_some hf
    simp only [decide_eq_true_eq] at h2
    exact (h (h2 ▸ List.mem_map_of_mem h1)).elim
theorem yod {K : KAt} {C : CTab} {k : Nat} (hC : y13s K C (y3d (upC C) k)) (n : Txt) (fb : Nat) (U : List Tx) (uv : AV) (ui ug : Nat) (hix : ∀ i < U.length, y21 1 uv (.int .i64 (i : Int)) = some (.lp ui ug i 0)) (hU : U.length ≤ 9223372036854775806) (hfu : fb ≠ ui) :
    ∀ (d i : Nat) (A : ATab) (O S : List Txt) (H : Heap) (P : PTab) (b : Bool) (A' : ATab) (O' S' : List Txt), i + d = U.length → climbs (y3d (upC C) k) ((U.drop i).map (·.s)) A O S = some (b, A', O', S') → AOk (upC C) A → KRep K C H P A O →
      H[fb]? = some ⟨1, .map false (sE S)⟩ → (U ≠ [] → H[ui]? = some ⟨ug, .arr false false 1 (U.map enc)⟩) → OffK K P fb → OffK K P ui → ui < H.length →
      ∃ H' P', KRep K C H' P' A' O' ∧ H.length ≤ H'.length ∧ (∀ i < H.length, i ≠ fb → OffK K P i → H'[i]? = H[i]?) ∧ (∀ p ∈ P', p ∈ P ∨ H.length ≤ p.2.1) ∧ (b = true → H'[fb]? = some ⟨1, .map false (sE S')⟩) ∧
        ycw fb (.lp K.t K.gt 0 0) (.str n) (.lm K.o K.go) (.lm fb 1) uv (.int .i64 U.length) (.int .i64 i) H =
          if b then ywh fb (.lp K.t K.gt 0 0) (.str n) (.lm fb 1) H' else some (.bool false, H') := by
  intro d
  induction d with
  | zero =>
    intro i A O S H P b A' O' S' hi hc hA R hS _ _ _ _
    have hcc : ¬ ((i : Int) < (U.length : Int)) := by omega
    rw [List.drop_eq_nil_of_le (by omega)] at hc
    simp only [List.map_nil, climbs, Option.some.injEq, Prod.mk.injEq] at hc
    obtain ⟨rfl, rfl, rfl, rfl⟩ := hc
    refine ⟨H, P, R, Nat.le_refl _, fun _ _ _ _ => rfl, fun p hp => .inl hp, fun _ => hS, ?_⟩
    rw [yh7]
    simp only [yn5, yh, hcc, decide_false, y4, yj9, y10, if_true]
  | succ d ih =>
    intro i A O S H P b A' O' S' hi hc hA R hS hui hF1 hF2 hul
    have hlt : i < U.length := by omega
    have hcc : ((i : Int) < (U.length : Int)) := by omega
    have hw := y3e hlt (by omega)
    have hUne : U ≠ [] := by intro e; rw [e] at hlt; simp at hlt
    have hu := hui hUne
    have hld : evLd false 1 (.lp ui ug i 0) H = some (.str U[i].s) := yn7 (es := 1) hu (by simp [hlt])
    rw [List.drop_eq_getElem_cons hlt, List.map_cons, climbs] at hc
    have hfl : fb < H.length := yz hS
    generalize hx : U[i].s = x at *
    cases hf : y3d (upC C) k x A O with
    | none => rw [hf] at hc; cases hc
    | some q =>
      obtain ⟨c, A1, O1⟩ := q
      rw [hf] at hc
      obtain ⟨H1, P1, e1, R1, l1, f1, p1⟩ := hC x A O c A1 O1 H P fb hf hA R
      obtain ⟨k1, _, k3⟩ := y6k k x A O c A1 O1 hf hA
      rw [yh7]
      simp only [yn5, yh, hcc, decide_true, y4, yj9, y1q, y14v, hix i hlt, hld, y18r, e1, yc, y2b]
      cases c with
      | false =>
        simp only [Option.some.injEq, Prod.mk.injEq] at hc
        obtain ⟨rfl, rfl, rfl, rfl⟩ := hc
        refine ⟨H1, P1, R1, l1, fun i hi _ ho => f1 i hi ho, p1, fun e => (by cases e), ?_⟩
        simp only [Bool.not_false, y1q, Bool.false_eq_true, if_false]
      | true =>
        simp only at hc
        simp only [Bool.not_true, y10, y19q, y1x, y4, y1f, Nat.zero_add, R1.ldA]
        obtain ⟨id, g, fz, T, t1, t2, t3, t4⟩ : ∃ id g fz S, tlook P1 x = some (id, g) ∧ tlook A1 x = some S ∧ H1[id]? = some ⟨g, .map fz (sE S)⟩ ∧ (x, (id, g)) ∈ P1 := by
          rcases R1.sets.look x with ⟨_, h⟩ | h
          · obtain ⟨v, hv⟩ := yg2 (k3 rfl)
            rw [hv] at h
            cases h
          · exact h
        have hfar : ∀ y : Nat, y < H.length → OffK K P y → OffK K P1 y := fun y hy ho => ⟨ho.t, ho.c, ho.a, ho.o, fun p hp => by
          rcases p1 p hp with h | h
          · exact ho.p p h
          · intro e; omega⟩
        have o1 := hfar fb hfl hF1
        have o2 := hfar ui hul hF2
        have d1 : id ≠ fb := o1.p _ t4
        have d2 : id ≠ ui := o2.p _ t4
        have hS1 : H1[fb]? = some ⟨1, .map false (sE S)⟩ := by rw [f1 fb hfl hF1]; exact hS
        have hm := yeo lmV (H := H1) (id := K.a) (g := K.ga) R1.ab x .nilm false
        rw [t1] at hm
        rw [y13e] at hm
        rw [hm]
        simp only [y4]
        rw [y126 (T := T) (S := S) (x := fb) (gx := 1) t3 hS1 d1 (fun H' S' c hH => by
          simp only [y2w, List.getElem?_cons_zero, y4, y14l, yhu hH c, yc]
          rfl)]
        simp only [y18v, y1b, hw, y4]
        have hal : (alook A1 x).getD [] = T := by
          have : alook A1 x = some T := t2
          rw [this]; rfl
        rw [hal] at hc
        have l2 : ((H1.set id ⟨g, .map true (sE T)⟩).set fb ⟨1, .map false (sE (sjoin S T))⟩).length = H1.length := by simp
        obtain ⟨H', P', R', l', f', p', s', e'⟩ := ih (i + 1) A1 O1 (sjoin S T) ((H1.set id ⟨g, .map true (sE T)⟩).set fb ⟨1, .map false (sE (sjoin S T))⟩) P1 b A' O' S' (by omega) hc k1
          ((R1.frozen t4 t3).other o1) (y22 (by rw [List.length_set]; exact yz hS1))
          (fun h => by rw [yi hfu, yi d2, f1 ui hul hF2]; exact hui h) o1 o2 (by rw [l2]; omega)
        push_cast at e'
        refine ⟨H', P', R', by rw [l2] at l'; omega, fun j hj hjf hjo => ?_, fun p hp => ?_, s', e'⟩
        · have oj := hfar j hj hjo
          rw [f' j (by rw [l2]; omega) hjf oj, yi (fun e => hjf e.symm), yi (oj.p _ t4), f1 j hj hjo]
        · rcases p' p hp with h | h
          · exact p1 p h
          · rw [l2] at h; exact .inr (by omega)
def upT (c : Cls) : List Tx := lst c.ifs ++ (if c.sup = [] then [] else [Tx.mk c.sup])
theorem y1g9 (c : Cls) : (upT c).map (·.s) = upOf c := by
  unfold upT upOf
  rw [List.map_append]
  split <;> rfl
theorem yl3 {H : Heap} {fb j : Nat} {o : AO} (s : Txt) (h : H[fb + j]? = some o) : y19 fb (some j) 1 1 [.str []] [(0, .str s)] H = some (.ls (fb + j) (o.gen + 1) 1 0 1, H.set (fb + j) ⟨o.gen + 1, .arr false false 1 ([Tx.mk s].map enc)⟩) := by
  simp [y19, y3s, y2s, place, h]
theorem yky {α : Type} [Cel α] {H : Heap} {fb id g b : Nat} {sl : Option Nat} {y : AV} {L M : List α} (hy : y15 H (es α) y = some (M.map enc)) (h : H[id]? = some ⟨g, .arr false false (es α) (L.map enc)⟩) (hs : (L.length + M.length + (L.length + M.length) / 4 + 512) * b ≤ 2 ^ 48) :
    y2d fb sl (es α) b (.ls id g (es α) 0 L.length) y H = some (.ls id (g + 1) (es α) 0 (L ++ M).length, H.set id ⟨g + 1, .arr false false (es α) ((L ++ M).map enc)⟩) := by
  unfold y2d
  rw [hy]
  simp only [h]
  rw [if_pos ⟨trivial, trivial, trivial, by simp, .inr (by rw [List.length_map]; exact hs)⟩]
  simp only [List.drop_zero, List.map_append, List.length_append]
  rw [y8s, List.length_map]
theorem yaf {H : Heap} {id g : Nat} {s : Txt} (h : H[id]? = some ⟨g, .arr false false 1 ([Tx.mk s].map enc)⟩) : y15 H (es Tx) (.ls id g 1 0 1) = some ([Tx.mk s].map enc) :=
  y19r (α := Tx) (L := [Tx.mk s]) h
theorem y1di (n : Nat) (h : n * 16 ≤ 140737488351232) : (n + 1 + (n + 1) / 4 + 512) * 16 ≤ 281474976710656 := by omega
theorem y0s (fb : Nat) (v0 v1 v2 v7 : AV) (g : Nat) (c : Cls) (H : Heap) (hb : H[fb + 1]? = some (AC g c)) (h2 : H[fb + 2]? = some D0) (h3 : H[fb + 3]? = some D0) (h4 : H[fb + 4]? = some D0) (hc : (lst c.ifs).length * 16 ≤ reachBytes) :
    ∃ uv H' ui ug, ymh fb v0 v1 v2 v7 (.lp (fb + 1) g 0 0) H = ygo fb v0 v1 v2 v7 uv H' ∧ y1t 1 uv H' = some (.int .i64 (upT c).length) ∧ (∀ i < (upT c).length, y21 1 uv (.int .i64 (i : Int)) = some (.lp ui ug i 0)) ∧
      (upT c ≠ [] → H'[ui]? = some ⟨ug, .arr false false 1 ((upT c).map enc)⟩) ∧ (ui = fb + 2 ∨ ui = fb + 4) ∧ H'.length = H.length ∧ (∀ i, i ≠ fb + 2 → i ≠ fb + 3 → i ≠ fb + 4 → H'[i]? = H[i]?) := by
  have rb : reachBytes = 140737488351232 := rfl
  rw [rb] at hc
  have l2 := yz h2
  have l3 := yz h3
  have l4 := yz h4
  have ixs : ∀ (id g' m i : Nat), i < m → y21 1 (.ls id g' 1 0 m) (.int .i64 (i : Int)) = some (.lp id g' i 0) := fun id g' m i hi => by
    have := y12o (n := m) (p := (i : Int)) (by omega) (by omega) id g' .i64
    simpa using this
  obtain ⟨ga, ha⟩ := yae (α := Tx) (H := H) (fb := fb) (j := 2) (g := 0) (b := 16) (o := D0) (y := slA c.ifs) (L := []) (M := lst c.ifs) (y8p c.ifs H) h2 (by simp only [List.length_nil]; omega)
  simp only [yc3, List.nil_append, y15d] at ha
  have hif := y3t (k := 3) hb (cls3 c)
  have hsp := y3t (k := 2) hb (cls2 c)
  generalize hH1 : H.set (fb + 2) (y38 ga D0 (lst c.ifs)) = H1 at ha
  have b1 : H1[fb + 1]? = some (AC g c) := by rw [← hH1, yi (by omega)]; exact hb
  have b3 : H1[fb + 3]? = some D0 := by rw [← hH1, yi (by omega)]; exact h3
  have b4 : H1[fb + 4]? = some D0 := by rw [← hH1, yi (by omega)]; exact h4
  have b2 : H1[fb + 2]? = some (y38 ga D0 (lst c.ifs)) := by rw [← hH1]; exact y22 l2
  have len1 : H1.length = H.length := by rw [← hH1, List.length_set]
  have keep1 : ∀ i, i ≠ fb + 2 → i ≠ fb + 3 → i ≠ fb + 4 → H1[i]? = H[i]? := fun i hi _ _ => by rw [← hH1, yi (fun e => hi e.symm)]
  have hsp1 := y3t (k := 2) b1 (cls2 c)
  unfold ymh
  simp only [y1f, Nat.zero_add, y4, hif, ha, yc, ypo, hsp1, y1k]
  by_cases hs : c.sup = []
  · have hU : upT c = lst c.ifs := by unfold upT; rw [if_pos hs, List.append_nil]
    simp only [hs, ne_eq, not_true_eq_false, decide_false, y10]
    rw [hU]
    refine ⟨_, H1, fb + 2, ga, rfl, yoo .., fun i hi => ?_, fun hne => ?_, .inl rfl, len1, keep1⟩
    · cases hL : lst c.ifs with
      | nil => rw [hL] at hi; simp at hi
      | cons x L => rw [hL] at hi; exact ixs _ _ _ _ hi
    · rw [b2]
      cases hL : lst c.ifs with
      | nil => exact (hne hL).elim
      | cons x L => rfl
  · have hU : upT c = lst c.ifs ++ [Tx.mk c.sup] := by unfold upT; rw [if_neg hs]
    have hb := yl3 c.sup b3
    simp only [hs, ne_eq, not_false_eq_true, decide_true, y1q, hb, yc]
    generalize hH2 : H1.set (fb + 3) ⟨D0.gen + 1, .arr false false 1 ([Tx.mk c.sup].map enc)⟩ = H2
    have c3 : H2[fb + 3]? = some ⟨D0.gen + 1, .arr false false 1 ([Tx.mk c.sup].map enc)⟩ := by rw [← hH2]; exact y22 (by omega)
    have c2 : H2[fb + 2]? = some (y38 ga D0 (lst c.ifs)) := by rw [← hH2, yi (by omega)]; exact b2
    have c4 : H2[fb + 4]? = some D0 := by rw [← hH2, yi (by omega)]; exact b4
    have len2 : H2.length = H.length := by rw [← hH2, List.length_set, len1]
    have keep2 : ∀ i, i ≠ fb + 2 → i ≠ fb + 3 → i ≠ fb + 4 → H2[i]? = H[i]? := fun i hi hi3 hi4 => by rw [← hH2, yi (fun e => hi3 e.symm)]; exact keep1 i hi hi3 hi4
    have hy := yaf c3
    rw [hU]
    cases hL : lst c.ifs with
    | nil =>
      obtain ⟨gb, hap⟩ := yae (α := Tx) (H := H2) (fb := fb) (j := 4) (g := 0) (b := 16) (o := D0) (L := []) (M := [Tx.mk c.sup]) hy c4 (by simp)
      simp only [yc3, List.nil_append, y15d] at hap
      simp only [yc3, hap, yc]
      refine ⟨_, _, fb + 4, gb, rfl, rfl, fun i hi => ixs _ _ _ _ hi, fun _ => y22 (by omega), .inr rfl, by rw [List.length_set, len2], fun i hi hi3 hi4 => ?_⟩
      rw [yi (fun e => hi4 e.symm)]
      exact keep2 i hi hi3 hi4
    | cons x L =>
      rw [hL] at c2 hc
      have hap : y2d fb (some 4) 1 16 (y2l Tx (fb + 2) ga (x :: L)) (.ls (fb + 3) (D0.gen + 1) 1 0 1) H2 = some (.ls (fb + 2) (ga + 1) 1 0 ((x :: L) ++ [Tx.mk c.sup]).length, H2.set (fb + 2) ⟨ga + 1, .arr false false 1 (((x :: L) ++ [Tx.mk c.sup]).map enc)⟩) := by
        have e48 : (2:Nat) ^ 48 = 281474976710656 := by decide
        have hbd : ((x :: L).length + [Tx.mk c.sup].length + ((x :: L).length + [Tx.mk c.sup].length) / 4 + 512) * 16 ≤ 2 ^ 48 := by
          rw [e48]
          exact y1di _ hc
        have c2' : H2[fb + 2]? = some ⟨ga, .arr false false (es Tx) ((x :: L).map enc)⟩ := c2
        have := yky (fb := fb) (id := fb + 2) (g := ga) (b := 16) (sl := some 4) (L := x :: L) (M := [Tx.mk c.sup]) hy c2' hbd
        exact this
      simp only [hap, yc]
      refine ⟨_, _, fb + 2, ga + 1, rfl, rfl, fun i hi => ixs _ _ _ _ hi, fun _ => y22 (by omega), .inl rfl, by rw [List.length_set, len2], fun i hi hi3 hi4 => ?_⟩
      rw [yi (fun e => hi e.symm)]
      exact keep2 i hi hi3 hi4
theorem KRep.key {K : KAt} {C : CTab} {H : Heap} {P : PTab} {A : ATab} {O : List Txt} (R : KRep K C H P A O) {n : Txt} (h : n ∈ akeys A) : ∃ p, tlook P n = some p := by
  rcases R.sets.look n with ⟨_, h2⟩ | ⟨id, g, fz, S, h1, _⟩
  · obtain ⟨v, hv⟩ := yg2 h
    rw [hv] at h2
    cases h2
  · exact ⟨_, h1⟩
theorem KRep.nokey {K : KAt} {C : CTab} {H : Heap} {P : PTab} {A : ATab} {O : List Txt} (R : KRep K C H P A O) {n : Txt} (h : n ∉ akeys A) : tlook P n = none := by
  rcases R.sets.look n with ⟨h1, _⟩ | ⟨id, g, fz, S, _, h2, _⟩
  · exact h1
  · rw [yp8 h] at h2
    cases h2
theorem y159 {K : KAt} {C : CTab} (hC : ∀ n c, tlook C n = some c → (lst c.ifs).length * 16 ≤ reachBytes) : ∀ k, y13s K C (y3d (upC C) k) := by
  intro k
  induction k with
  | zero => intro n A O b A' O' H P fb h; cases h
  | succ k ih =>
    intro n A O b A' O' H P fbx h hA R
    have hp : E.pure 62 = false := by kernel_rfl
    have ecall : y7 E (y6 E) fbx none false 62 [.lp K.t K.gt 0 0, .str n, .lm K.o K.go] H = ynq H.length (.lp K.t K.gt 0 0) (.str n) (.lm K.o K.go) (H ++ yg 5) := by
      rw [y7, hp]
      simp only [Bool.false_and, Bool.false_eq_true, if_false]
      rw [y1f4, if_pos rfl]
    rw [ecall]
    have R0 := R.more 5
    have dd : ∀ j < 5, (H ++ yg 5)[H.length + j]? = some D0 := fun j hj => y1ep hj
    have hlen : (H ++ yg 5).length = H.length + 5 := by simp [yg]
    have off : ∀ j, OffK K P (H.length + j) := fun j => by
      have h1 := yz R.tree
      have h2 := yz R.cls
      have h3 := yz R.ab
      have h4 := yz R.op
      exact ⟨by omega, by omega, by omega, by omega, fun p hp => by have := R.sets.lt p hp; omega⟩
    have keep0 : ∀ i < H.length, (H ++ yg 5)[i]? = H[i]? := fun i hi => yoe hi
    generalize hH0 : H ++ yg 5 = H0 at *
    rw [y3d] at h
    have hm := yeo lmV R0.ab n .nilm false
    unfold ynq yrq
    simp only [y1x, y4, y1f, Nat.zero_add, R0.ldA, hm]
    by_cases hn : n ∈ akeys A
    · rw [if_pos hn] at h
      simp only [Option.some.injEq, Prod.mk.injEq] at h
      obtain ⟨rfl, rfl, rfl⟩ := h
      obtain ⟨p, hp⟩ := R0.key hn
      refine ⟨H0, P, ?_, R0, by omega, fun i hi _ => keep0 i hi, fun p hp => .inl hp⟩
      simp only [hp, y13e]
      rfl
    rw [if_neg hn] at h
    simp only [R0.nokey hn, y143]
    have e0 : y66 2 true .nilm .nilm = some (.bool false) := rfl
    simp only [e0, y4, y10, yu0, y16z R0.op n]
    by_cases hnO : n ∈ O
    · rw [if_pos hnO] at h
      simp only [Option.some.injEq, Prod.mk.injEq] at h
      obtain ⟨rfl, rfl, rfl⟩ := h
      refine ⟨H0, P, ?_, R0, by omega, fun i hi _ => keep0 i hi, fun p hp => .inl hp⟩
      simp only [hnO, decide_true, y1q]
    rw [if_neg hnO] at h
    have esp : sput n O = O ++ [n] := if_neg hnO
    simp only [hnO, decide_false, y10, yu2, yhu R0.op n, yc]
    have R1 := R0.opened n
    have lo := yz R0.op
    have d1 : ∀ j < 5, (H0.set K.o ⟨K.go, .map false (sE (sput n O))⟩)[H.length + j]? = some D0 := fun j hj => by rw [yi (off j).o.symm]; exact dd j hj
    have keep1 : ∀ i < H.length, OffK K P i → (H0.set K.o ⟨K.go, .map false (sE (sput n O))⟩)[i]? = H[i]? := fun i hi ho => by rw [yi ho.o.symm]; exact keep0 i hi
    have len1 : (H0.set K.o ⟨K.go, .map false (sE (sput n O))⟩).length = H.length + 5 := by rw [List.length_set, hlen]
    generalize H0.set K.o ⟨K.go, .map false (sE (sput n O))⟩ = H1 at *
    rw [esp] at R1
    have m0 : mkmC H.length (some 0) H1 = some (.lm H.length 1, H1.set H.length ⟨1, .map false (sE [])⟩) := y14c (d1 0 (by omega))
    have hset : (H1.set H.length ⟨1, .map false (sE [])⟩)[H.length]? = some ⟨1, .map false (sE [])⟩ := y22 (by omega)
    have esn : sput n [] = [n] := by simp [sput]
    simp only [yrh, m0, yc, yhu hset n, List.set_set, esn]
    have off0 : OffK K P H.length := off 0
    have R3 := R1.other (v := ⟨1, .map false (sE [n])⟩) off0
    have hs3 : (H1.set H.length ⟨1, .map false (sE [n])⟩)[H.length]? = some ⟨1, .map false (sE [n])⟩ := y22 (by omega)
    have d3 : ∀ j < 5, j ≠ 0 → (H1.set H.length ⟨1, .map false (sE [n])⟩)[H.length + j]? = some D0 := fun j hj hj0 => by rw [yi (by omega)]; exact d1 j hj
    have keep3 : ∀ i < H.length, OffK K P i → (H1.set H.length ⟨1, .map false (sE [n])⟩)[i]? = H[i]? := fun i hi ho => by rw [yi (by omega)]; exact keep1 i hi ho
    have len3 : (H1.set H.length ⟨1, .map false (sE [n])⟩).length = H.length + 5 := by rw [List.length_set, len1]
    generalize H1.set H.length ⟨1, .map false (sE [n])⟩ = H3 at *
    have hg := yeo cV R3.cls n (.agg zCls) false
    obtain ⟨c, hc1, hc2, hc3⟩ : ∃ c : Cls, mgV cV (.agg zCls) false (tlook C n) = .agg (enc c) ∧ upC C n = upOf c ∧ (lst c.ifs).length * 16 ≤ reachBytes := by
      have e : clook C n = tlook C n := rfl
      unfold upC
      rw [e]
      cases hl : tlook C n with
      | none => exact ⟨zC, rfl, rfl, Nat.zero_le _⟩
      | some c => exact ⟨c, rfl, rfl, hC n c hl⟩
    rw [hc1] at hg
    have n1 : newC H.length (some 1) zCls H3 = some (.lp (H.length + 1) 1 0 0, H3.set (H.length + 1) (AC 1 zC)) := y9e (d3 1 (by omega) (by omega))
    have hb1 : (H3.set (H.length + 1) (AC 1 zC))[H.length + 1]? = some (AC 1 zC) := y22 (by omega)
    simp only [yu4, y1x, y4, y1f, Nat.add_zero, R3.ldC, hg, n1, yc, ydj hb1 (d := c), List.set_set]
    have R5 := R3.other (v := AC 1 c) (off 1)
    have hb5 : (H3.set (H.length + 1) (AC 1 c))[H.length + 1]? = some (AC 1 c) := y22 (by omega)
    have hs5 : (H3.set (H.length + 1) (AC 1 c))[H.length]? = some ⟨1, .map false (sE [n])⟩ := by rw [yi (by omega)]; exact hs3
    have d5 : ∀ j < 5, j ≠ 0 → j ≠ 1 → (H3.set (H.length + 1) (AC 1 c))[H.length + j]? = some D0 := fun j hj h0 h1 => by rw [yi (by omega)]; exact d3 j hj h0
    have keep5 : ∀ i < H.length, OffK K P i → (H3.set (H.length + 1) (AC 1 c))[i]? = H[i]? := fun i hi ho => by rw [yi (by omega)]; exact keep3 i hi ho
    have len5 : (H3.set (H.length + 1) (AC 1 c)).length = H.length + 5 := by rw [List.length_set, len3]
    generalize H3.set (H.length + 1) (AC 1 c) = H5 at *
    obtain ⟨uv, H6, ui, ug, e6, ul, uix, uo, uw, len6, keep6⟩ := y0s H.length (.lp K.t K.gt 0 0) (.str n) (.lm K.o K.go) (.lm H.length 1) 1 c H5 hb5 (d5 2 (by omega) (by omega) (by omega)) (d5 3 (by omega) (by omega) (by omega)) (d5 4 (by omega) (by omega) (by omega)) hc3
    have offu : OffK K P ui := by rcases uw with rfl | rfl <;> exact off _
    have R6 : KRep K C H6 P A (O ++ [n]) := by
      have k : ∀ x : Nat, x < H.length → H6[x]? = H5[x]? := fun x hx => keep6 x (by omega) (by omega) (by omega)
      exact ⟨by rw [k _ (yz R.tree)]; exact R5.tree, by rw [k _ (yz R.cls)]; exact R5.cls, by rw [k _ (yz R.ab)]; exact R5.ab, by rw [k _ (yz R.op)]; exact R5.op,
        R5.sets.mono fun p hp g fz es h' => ⟨fz, by rw [k _ (R.sets.lt p hp)]; exact h'⟩, R.dif, R.far⟩
    have hul : (upT c).length ≤ 9223372036854775806 := by
      have rb : reachBytes = 140737488351232 := rfl
      rw [rb] at hc3
      unfold upT
      rw [List.length_append]
      split <;> simp <;> omega
    rw [e6]
    simp only [ygo, ul, y4]
    rw [hc2, ← y1g9] at h
    cases hcl : climbs (y3d (upC C) k) ((upT c).map (·.s)) A (O ++ [n]) [n] with
    | none => rw [hcl] at h; cases h
    | some q =>
      obtain ⟨b1, A1, O1, S1⟩ := q
      rw [hcl] at h
      obtain ⟨H', P', R', l', f', p', s', e'⟩ := yod ih n H.length (upT c) uv ui ug uix hul (by omega) (upT c).length 0 A (O ++ [n]) [n] H6 P b1 A1 O1 S1 (by omega) (by rw [List.drop_zero]; exact hcl) hA R6
        (by rw [keep6 _ (by omega) (by omega) (by omega)]; exact hs5) uo off0 offu (by omega)
      have e'' : ycw H.length (.lp K.t K.gt 0 0) (.str n) (.lm K.o K.go) (.lm H.length 1) uv (.int .i64 (upT c).length) (.int .i64 0) H6 = if b1 then ywh H.length (.lp K.t K.gt 0 0) (.str n) (.lm H.length 1) H' else some (.bool false, H') := e'
      rw [e'']
      have rest : ∀ i < H.length, OffK K P i → H'[i]? = H[i]? := fun i hi ho => by
        rw [f' i (by omega) (by omega) ho, keep6 i (by omega) (by omega) (by omega)]
        exact keep5 i hi ho
      have prest : ∀ p ∈ P', p ∈ P ∨ H.length ≤ p.2.1 := fun p hp => by
        rcases p' p hp with h | h
        · exact .inl h
        · exact .inr (by omega)
      obtain ⟨k1, k2, _⟩ := yc9 (fun n A O b A' O' => y6k k n A O b A' O') _ _ _ _ _ _ _ _ hcl hA
      cases b1 with
      | false =>
        simp only [Option.some.injEq, Prod.mk.injEq] at h
        obtain ⟨rfl, rfl, rfl⟩ := h
        exact ⟨H', P', by simp only [Bool.false_eq_true, if_false], R', by omega, rest, prest⟩
      | true =>
        simp only [Option.some.injEq, Prod.mk.injEq] at h
        obtain ⟨rfl, rfl, rfl⟩ := h
        have hn1 : n ∉ akeys A1 := by
          obtain ⟨B, e, hB⟩ := k2.pre
          rw [e, y4i, List.mem_append]
          rintro (h | h)
          · exact hn h
          · exact hB n h (List.mem_append_right _ (by simp))
        have hpush := yig lmV R'.ab n (H.length, 1) (R'.nokey hn1)
        have RP := R'.push (n := n) (s' rfl) ⟨off0.t, off0.c, off0.a, off0.o⟩
        refine ⟨_, P' ++ [(n, (H.length, 1))], ?_, RP, by rw [List.length_set]; omega, fun i hi ho => ?_, fun p hp => ?_⟩
        · simp only [if_true, ywh, y1x, y4, y1f, Nat.zero_add, R'.ldA, hpush, yc]
        · rw [yi ho.a.symm]
          exact rest i hi ho
        · rcases List.mem_append.1 hp with hp | hp
          · exact prest p hp
          · rw [List.mem_singleton] at hp
            subst hp
            exact .inr (Nat.le_refl _)
end Go.Vm
namespace Go.Vm
open Cel
theorem yys (n : Int) : y9 .and (.int .i64 n) (.int .i64 512) = some (.int .i64 (ype n)) := by
  simp [y9, y49, y69, ype]
theorem y1dl {L : List Tx} {i : Nat} (h : i ≤ L.length) (k : IntKind) : yfn 1 (slA (some L)) none (some (.int k i)) = some (slA (some (L.take i))) := by
  simp [yfn, yrc, slA, ya3, yiq, h, List.map_take]
abbrev HP (c p : Cls) (o : AO) : Heap := [AC 1 c, AC 1 p, o]
theorem yyr (v0 v3 v55 v56 v57 : AV) (s : Txt) (L : List Tx) (n : Nat) (hn : n ≤ L.length) (hL : L.length ≤ 9223372036854775806) (H : Heap) : ∀ (d j : Nat), j + d = n →
    yfw v0 v3 (.str s) v55 v56 v57 (slA (some (L.take n))) (.int .i64 n) (.int .i64 j) H = if ((L.take n).drop j).any (fun x => decide (x.s = s)) then xB false else yzp v0 v3 v55 v56 v57 H := by
  have hlen : (L.take n).length = n := by rw [List.length_take]; omega
  intro d
  induction d with
  | zero =>
    intro j hj
    have hc : ¬ ((j : Int) < (n : Int)) := by omega
    rw [yff, List.drop_eq_nil_of_le (by omega)]
    simp only [y119, yh, hc, decide_false, y4, y11l, y10, List.any_nil, Bool.false_eq_true, if_false]
  | succ d ih =>
    intro j hj
    have hlt : j < (L.take n).length := by omega
    have hc : ((j : Int) < (n : Int)) := by omega
    have hw := y3e (i := j) (n := n) (by omega) (by omega)
    have ih := ih (j + 1) (by omega)
    push_cast at ih
    have k1 := y13r (o := some (L.take n)) (i := j) (List.getElem?_eq_getElem hlt) .i64
    rw [yff, List.drop_eq_getElem_cons hlt, List.any_cons]
    simp only [y119, yh, hc, decide_true, y4, y11l, y1q, y18y, k1, y4s, ybk, List.head?_cons, y25]
    cases hb : decide ((L.take n)[j].s = s) with
    | true => simp
    | false =>
      simp only [y10, Bool.false_or, y197, y1b, hw, y4]
      exact ih
theorem y17t (C : CTab) (N : List Txt) (c p : Cls) (L : List Tx) (hL : L.length ≤ 9223372036854775806) (hc : c.ifs = some L) : ∀ (d i : Nat) (o : AO), i + d = L.length →
    yfm (y11 C N []) (.lp 0 1 0 0) (slA (some L)) (.int .i64 L.length) (.int .i64 i) (HP c p o) = xB (ifsB C (L.take i) (L.drop i)) := by
  intro d
  induction d with
  | zero =>
    intro i o hi
    have hcc : ¬ ((i : Int) < (L.length : Int)) := by omega
    rw [yco, List.drop_eq_nil_of_le (by omega)]
    simp only [yfh, yh, hcc, decide_false, y4, ygt, y10, y01, ifsB]
    rfl
  | succ d ih =>
    intro i o hi
    have hlt : i < L.length := by omega
    have hcc : ((i : Int) < (L.length : Int)) := by omega
    have hw := y3e hlt (by omega)
    have ih := fun o => ih (i + 1) o (by omega)
    push_cast at ih
    have k1 := y13r (o := some L) (i := i) (List.getElem?_eq_getElem hlt) .i64
    rw [yco, List.drop_eq_getElem_cons hlt, ifsB]
    have etake : L.take i ++ [L[i]] = L.take (i + 1) := by rw [List.take_add_one, List.getElem?_eq_getElem hlt]; rfl
    rw [etake]
    generalize hx : L[i] = x at *
    have e1 : evLd false 1 (.rp ((yhm C N []).drop 0)) (HP c p o) = some (.rm (tE cV C)) := rfl
    have n1 : newC 0 (some 2) zCls (HP c p o) = some (.lp 2 (o.gen + 1) 0 0, HP c p (AC (o.gen + 1) zC)) := y9e (H := HP c p o) (fb := 0) (j := 2) rfl
    have s1 : ∀ d : Cls, evSt 7 (.lp 2 (o.gen + 1) 0 0) (.agg (enc d)) (HP c p (AC (o.gen + 1) zC)) = some (.tup [], HP c p (AC (o.gen + 1) d)) := fun d => ydj (H := HP c p (AC (o.gen + 1) zC)) rfl
    simp only [yfh, yh, hcc, decide_true, y4, ygt, y1q, yxx, k1, y4s, ybk, List.head?_cons, yz5, y7m, yir, List.drop_zero]
    have e1' : (yhm C N []).head? = some (.rm (tE cV C)) := rfl
    simp only [e1', y4, ybs]
    cases hl : tlook C x.s with
    | none =>
      have s1' := s1 zC
      simp only [yrz, y2w, List.getElem?_cons_zero, List.getElem?_cons_succ, y4, n1, yc]
      have : (AV.agg zCls) = .agg (enc zC) := rfl
      rw [this, s1']
      simp only [yc, ykb, y2b, Bool.not_false, y4, y9c, yo, y1q, Bool.false_and]
      rfl
    | some q =>
      have l1 : evLd false 1 (.lp 2 (o.gen + 1) 0 0) (HP c p (AC (o.gen + 1) q)) = some (.int .i64 q.fl) := y3t (H := HP c p (AC (o.gen + 1) q)) rfl (cls0 q)
      simp only [ywo, y2w, List.getElem?_cons_zero, List.getElem?_cons_succ, y4, n1, yc, s1, ykb, y2b, Bool.not_true, y6a, y1f, Nat.zero_add, l1, yys, y13, yy]
      by_cases hf : ype q.fl = 0
      · have hb : ifB q = false := by unfold ifB; simp [hf]
        simp only [hf, decide_true, y1q, hb, Bool.false_and]
        rfl
      · have hb : ifB q = true := by unfold ifB; simp [hf]
        have l3 : evLd false 1 (.lp 0 1 0 3) (HP c p (AC (o.gen + 1) q)) = some (slA c.ifs) := y3t (H := HP c p (AC (o.gen + 1) q)) rfl (cls3 c)
        rw [hc] at l3
        simp only [hf, decide_false, y10, hb, Bool.true_and, yxz, y1f, Nat.zero_add, l3, y4, y1dl (Nat.le_of_lt hlt), y2c]
        have hlen : (lst (some (L.take i))).length = i := by show (L.take i).length = i; rw [List.length_take]; omega
        rw [hlen]
        have hin := yyr (y11 C N []) (.lp 0 1 0 0) (slA (some L)) (.int .i64 L.length) (.int .i64 i) x.s L i (by omega) hL (HP c p (AC (o.gen + 1) q)) i 0 (by omega)
        rw [show ((0 : Nat) : Int) = 0 from rfl, List.drop_zero] at hin
        rw [hin]
        cases (L.take i).any (fun x_1 => decide (x_1.s = x.s)) with
        | true => simp
        | false =>
          simp only [Bool.false_eq_true, if_false, Bool.not_false, Bool.true_and, yzp, y1b, hw, y4]
          exact ih _
theorem ywe (C : CTab) (N : List Txt) (c : Cls) (hL : (lst c.ifs).length ≤ 9223372036854775806) : (y6 E).p 61 [y11 C N [], .agg (enc c)] = xB (parB C c) := by
  rw [y1f9]
  have n0 : newC 0 (some 0) (enc c) [⟨0, .dead⟩, ⟨0, .dead⟩, ⟨0, .dead⟩] = some (.lp 0 1 0 0, [AC 1 c, D0, D0]) := y12g c (H := [D0, D0, D0]) (fb := 0) (j := 0) rfl
  have n1 : newC 0 (some 1) zCls [AC 1 c, D0, D0] = some (.lp 1 1 0 0, HP c zC D0) := y9e (H := [AC 1 c, D0, D0]) (fb := 0) (j := 1) rfl
  have s1 : ∀ d : Cls, evSt 7 (.lp 1 1 0 0) (.agg (enc d)) (HP c zC D0) = some (.tup [], HP c d D0) := fun d => ydj (H := HP c zC D0) rfl
  have lS : evLd false 1 (.lp 0 1 0 2) [AC 1 c, D0, D0] = some (.str c.sup) := y3t (H := [AC 1 c, D0, D0]) rfl (cls2 c)
  have e1' : (yhm C N []).head? = some (.rm (tE cV C)) := rfl
  unfold yra parB
  simp only [yin, n0, yc, yr0, y7m, y4, yir, List.drop_zero, y4s, ybk, e1', y1f, Nat.zero_add, lS, ybs]
  cases hl : tlook C c.sup with
  | none =>
    have : (AV.agg zCls) = .agg (enc zC) := rfl
    simp only [yrz, y2w, List.getElem?_cons_zero, List.getElem?_cons_succ, y4, n1, yc]
    rw [this, s1]
    simp only [yc]
    rw [ybz (by rfl)]
    have l0 : evLd false 1 (.lp 0 1 0 0) (HP c zC D0) = some (.int .i64 c.fl) := y3t (H := HP c zC D0) rfl (cls0 c)
    simp only [yk5, y1f, Nat.zero_add, y4, l0, yys, ybh, ynv, y2b, Bool.not_false, y9c, yo, y1q]
    rfl
  | some p =>
    have l0 : evLd false 1 (.lp 0 1 0 0) (HP c p D0) = some (.int .i64 c.fl) := y3t (H := HP c p D0) rfl (cls0 c)
    have lp0 : evLd false 1 (.lp 1 1 0 0) (HP c p D0) = some (.int .i64 p.fl) := y3t (H := HP c p D0) rfl (cls0 p)
    have l2 : evLd false 1 (.lp 0 1 0 2) (HP c p D0) = some (.str c.sup) := y3t (H := HP c p D0) rfl (cls2 c)
    have l3 : evLd false 1 (.lp 0 1 0 3) (HP c p D0) = some (slA c.ifs) := y3t (H := HP c p D0) rfl (cls3 c)
    simp only [ywo, y2w, List.getElem?_cons_zero, List.getElem?_cons_succ, y4, n1, yc, s1]
    rw [ybz (by rfl)]
    simp only [yk5, y1f, Nat.zero_add, y4, l0, yys, ybh, ynv, y2b, Bool.not_true, y6a, lp0, yy]
    rw [show decide (ype p.fl ≠ 0) = ifB p from rfl, show decide (ype c.fl ≠ 0) = ifB c from rfl]
    cases hp : ifB p with
    | true =>
      simp only [y9c, yo, y4, y1q, Bool.true_or, Bool.not_true, Bool.false_and]
      rfl
    | false =>
      simp only [y6a, yy, y4, l2, y25]
      rw [show decide (c.sup = [83, 116, 114, 105, 110, 103]) = decide (c.sup = sStr) from rfl]
      cases h1 : decide (c.sup = sStr) with
      | true =>
        simp only [y9c, yo, y4, y1q, Bool.true_or, Bool.or_true, Bool.not_true, Bool.false_and]
        rfl
      | false =>
        simp only [y6a, yy, y4, l2, y25]
        rw [show decide (c.sup = [83, 121, 115]) = decide (c.sup = sSys) from rfl]
        cases h2 : decide (c.sup = sSys) with
        | true =>
          simp only [y9c, yo, y4, y1q, Bool.true_or, Bool.or_true, Bool.not_true, Bool.false_and]
          rfl
        | false =>
          simp only [y6a, yy, y4]
          have fin : yns (y11 C N []) (.lp 0 1 0 0) (HP c p D0) = xB (ifsB C [] (lst c.ifs)) := by
            unfold yns
            simp only [y1f, Nat.zero_add, y4, l3, y2c]
            cases hi : c.ifs with
            | none =>
              rw [yco]
              simp [yfh, ygt, y01, lst, ifsB]
            | some L =>
              rw [hi] at hL
              have := y17t C N c p L hL hi L.length 0 D0 (by omega)
              exact this
          cases h3 : ifB c with
          | false =>
            simp only [yab, yy, y4, y10, Bool.false_and, Bool.or_false, Bool.not_false, Bool.true_and]
            exact fin
          | true =>
            simp only [y4d, l2, y1k, y4, yo]
            rw [show decide (c.sup ≠ [79, 98, 106, 101, 99, 116]) = decide (c.sup ≠ sObj) from rfl]
            cases h4 : decide (c.sup ≠ sObj) with
            | true =>
              simp only [y1q, y4, Bool.true_and, Bool.or_true, Bool.not_true, Bool.false_and]
              rfl
            | false =>
              simp only [y10, y4, Bool.true_and, Bool.or_false, Bool.not_false]
              exact fin
end Go.Vm
namespace Go.Vm
open Cel
structure Pr where
  a : List UInt8
  b : List UInt8
  deriving DecidableEq, Inhabited
instance : Cel Pr := ⟨2, fun x => [.str x.a, .str x.b], fun _ => rfl, fun _ => rfl, fun _ => rfl⟩
@[simp] theorem y1hj : es Pr = 2 := rfl
def ownP : List Pr := ownL.map fun p => ⟨p.1, p.2⟩
theorem y84 {α : Type} [Cel α] (o : Option (List α)) : yg6 (exO o) (slA o) := ⟨_, y1cw o, rfl⟩
theorem y169 : (y6 E).p 33 [] = some (exO (some ownP)) := yrm 60 (by kernel_rfl)
theorem yoq {fb : Nat} {H : Heap} : y7 E (y6 E) fb none true 33 [] H = some (slA (some ownP), H) :=
  y5c (by kernel_rfl) (fa := ⟨[], true, []⟩) rfl rfl y169 (y84 _)
theorem yfu (s : Txt) : (y6 E).p 43 [.str s] = some (exO (yel s)) := by
  rw [y1eh]
  unfold y19k y158 yel
  by_cases h1 : s = sSys
  · subst h1
    rfl
  · have h1' : decide (s = [83, 121, 115]) = false := decide_eq_false h1
    rw [if_neg h1]
    simp only [y25, h1', y4, y10]
    by_cases h2 : s = sStr
    · subst h2
      rfl
    · have h2' : decide (s = [83, 116, 114, 105, 110, 103]) = false := decide_eq_false h2
      rw [if_neg h2]
      simp only [h2', y4, y10]
      rfl
theorem ygh {fb : Nat} {H : Heap} (s : Txt) : y7 E (y6 E) fb none true 43 [.str s] H = some (slA (yel s), H) :=
  y5c (by kernel_rfl) (yr7 s H) rfl (yfu s) (y84 _)
theorem yot {fb : Nat} {H : Heap} (s : Txt) : ykf E (y6 E) fb none true 43 [.str s] H = some ([], []) :=
  y12q (by kernel_rfl) (yr7 s H) rfl (yfu s)
structure NRep (H : Heap) (C : CTab) (N : List Tx) (g : Nat) : Prop where
  h0 : H[0]? = some ⟨1, .map false (tE cV C)⟩
  h1 : H[1]? = some ⟨1, .map false []⟩
  h2 : H[2]? = some ⟨1, .arr true false 3 [[.lm 0 1, y2l Tx 5 g N, .lm 1 1]]⟩
  h5 : H[5]? = some (y38 g D0 N)
  len : H.length = 13
section
variable {H : Heap} {C : CTab} {N : List Tx} {g : Nat}
theorem NRep.other (R : NRep H C N g) {x : Nat} {v : AO} (hx : x ≠ 0 ∧ x ≠ 1 ∧ x ≠ 2 ∧ x ≠ 5) : NRep (H.set x v) C N g :=
  ⟨by rw [yi hx.1]; exact R.h0, by rw [yi hx.2.1]; exact R.h1, by rw [yi hx.2.2.1]; exact R.h2, by rw [yi hx.2.2.2]; exact R.h5, by rw [List.length_set]; exact R.len⟩
theorem NRep.at (R : NRep H C N g) {j : Nat} (h : j < 13) : ∃ o, H[j]? = some o := ⟨_, List.getElem?_eq_getElem (by rw [R.len]; exact h)⟩
theorem NRep.ld (R : NRep H C N g) {k : Nat} {v : AV} (hv : ([AV.lm 0 1, y2l Tx 5 g N, .lm 1 1].drop k).head? = some v) : evLd false 1 (.lp 2 1 0 k) H = some v := by
  have hr : ye H 2 1 = some (false, 3, [[.lm 0 1, y2l Tx 5 g N, .lm 1 1]]) := by simp [ye, y1p, R.h2]
  rw [y6z, hr]
  simp only [List.getElem?_cons_zero]
  exact hv
theorem NRep.ld0 (R : NRep H C N g) : evLd false 1 (.lp 2 1 0 0) H = some (.lm 0 1) := R.ld rfl
theorem NRep.ld1 (R : NRep H C N g) : evLd false 1 (.lp 2 1 0 1) H = some (y2l Tx 5 g N) := R.ld rfl
theorem NRep.put (R : NRep H C N g) (n : Txt) (c : Cls) : NRep (H.set 0 ⟨1, .map false (tE cV (C ++ [(n, c)]))⟩) (C ++ [(n, c)]) N g :=
  ⟨y22 (by rw [R.len]; omega), by rw [yi (by omega)]; exact R.h1, by rw [yi (by omega)]; exact R.h2, by rw [yi (by omega)]; exact R.h5, by rw [List.length_set]; exact R.len⟩
theorem NRep.name (R : NRep H C N g) (N' : List Tx) (g' : Nat) :
    evSt 1 (.lp 2 1 0 1) (y2l Tx 5 g' N') (H.set 5 (y38 g' D0 N')) = some (.tup [], (H.set 5 (y38 g' D0 N')).set 2 ⟨1, .arr true false 3 [[.lm 0 1, y2l Tx 5 g' N', .lm 1 1]]⟩) ∧
    NRep ((H.set 5 (y38 g' D0 N')).set 2 ⟨1, .arr true false 3 [[.lm 0 1, y2l Tx 5 g' N', .lm 1 1]]⟩) C N' g' := by
  have hl := R.len
  have h2' : (H.set 5 (y38 g' D0 N'))[2]? = some ⟨1, .arr true false 3 [[.lm 0 1, y2l Tx 5 g N, .lm 1 1]]⟩ := by rw [yi (by omega)]; exact R.h2
  refine ⟨?_, by rw [yi (by omega), yi (by omega)]; exact R.h0, by rw [yi (by omega), yi (by omega)]; exact R.h1, y22 (by rw [List.length_set, hl]; omega), by rw [yi (by omega)]; exact y22 (by omega), by rw [List.length_set, List.length_set]; exact hl⟩
  have hr : ye (H.set 5 (y38 g' D0 N')) 2 1 = some (false, 3, [[.lm 0 1, y2l Tx 5 g N, .lm 1 1]]) := by simp only [ye, y1p, h2', if_true]
  have hc : cellsOf (y2l Tx 5 g' N') = [y2l Tx 5 g' N'] := ygv ..
  rw [yi1, hr]
  simp only [List.getElem?_cons_zero]
  rw [hc, if_pos ⟨rfl, by simp, by simp⟩, y1e, h2']
  rfl
end
theorem y16o : ∀ i < 13, ∀ p, ownP[i]? = some p → tlook (y26.take i) p.a = none ∧ y26.take i ++ [(p.a, ownC (p.a, p.b))] = y26.take (i + 1) := by
  intro i hi p hp
  have hall : (List.range 13).all (fun i => match ownP[i]? with
    | some p => decide (tlook (y26.take i) p.a = none) && decide (y26.take i ++ [(p.a, ownC (p.a, p.b))] = y26.take (i + 1))
    | none => false) = true := by kernel_rfl
  have := List.all_eq_true.1 hall i (List.mem_range.2 hi)
  rw [hp] at this
  simpa using this
def y95 (p : Pr) : Tx := ⟨p.a⟩
theorem yca : ownP.length = 13 := rfl
theorem y17k (v0 : AV) : ∀ (d i : Nat) (H : Heap) (g : Nat), i + d = 13 → NRep H (y26.take i) ((ownP.take i).map y95) g →
    ∃ H' g', NRep H' y26 (ownP.map y95) g' ∧ y92 v0 (.lp 2 1 0 0) (slA (some ownP)) (.int .i64 13) (.int .i64 i) H = yji v0 (.lp 2 1 0 0) H' := by
  intro d
  induction d with
  | zero =>
    intro i H g hi R
    have hc : ¬ ((i : Int) < 13) := by omega
    have e1 : y26.take i = y26 := List.take_of_length_le (by rw [show y26.length = 13 from rfl]; omega)
    have e2 : ownP.take i = ownP := List.take_of_length_le (by rw [yca]; omega)
    rw [e1, e2] at R
    refine ⟨H, g, R, ?_⟩
    rw [yd5]
    simp only [yjp, yh, hc, decide_false, y4, ykj, y10]
  | succ d ih =>
    intro i H g hi R
    have hlt : i < ownP.length := by rw [yca]; omega
    have hc : ((i : Int) < 13) := by omega
    have hw := y3e (i := i) (n := 13) (by omega) (by omega)
    obtain ⟨p, hp⟩ : ∃ p, ownP[i]? = some p := ⟨_, List.getElem?_eq_getElem hlt⟩
    obtain ⟨hnew, happ⟩ := y16o i (by omega) p hp
    have k1 : y21 2 (slA (some ownP)) (.int .i64 i) = some (.rp (enc p)) := y5u (o := some ownP) hp .i64
    have k2 : y3h true 2 (enc p) = some (.agg (enc p)) := y3v p
    obtain ⟨o3, h3⟩ := R.at (j := 3) (by omega)
    obtain ⟨o4, h4⟩ := R.at (j := 4) (by omega)
    have hl := R.len
    have n3 : newC 0 (some 3) [.str [], .str []] H = some (.lp 3 (o3.gen + 1) 0 0, H.set 3 ⟨o3.gen + 1, .arr true false 2 [[.str [], .str []]]⟩) := by
      simp [newC, y4j, place, h3]
    have b3 : (H.set 3 ⟨o3.gen + 1, .arr true false 2 [[.str [], .str []]]⟩)[3]? = some ⟨o3.gen + 1, .arr true false 2 [[.str [], .str []]]⟩ := y22 (by omega)
    have s3 : evSt 2 (.lp 3 (o3.gen + 1) 0 0) (.agg (enc p)) (H.set 3 ⟨o3.gen + 1, .arr true false 2 [[.str [], .str []]]⟩) = some (.tup [], H.set 3 ⟨o3.gen + 1, .arr true false 2 [enc p]⟩) := by
      have hr : ye (H.set 3 ⟨o3.gen + 1, .arr true false 2 [[.str [], .str []]]⟩) 3 (o3.gen + 1) = some (false, 2, [[.str [], .str []]]) := by simp only [ye, y1p, b3, if_true]
      rw [yi1, hr]
      have hl2 : (enc p).length = 2 := Cel.len p
      have hle : (enc p).all yj = true := y5t p
      simp only [List.getElem?_cons_zero]
      rw [show cellsOf (.agg (enc p)) = enc p from rfl, if_pos ⟨hl2, by simp, hle⟩, yd1 (by rw [hl2]; rfl), y1e, b3]
      simp only [List.set_cons_zero, List.set_set]
    have R2 := R.other (x := 3) (v := ⟨o3.gen + 1, .arr true false 2 [enc p]⟩) (by omega)
    have b2 : (H.set 3 ⟨o3.gen + 1, .arr true false 2 [enc p]⟩)[3]? = some ⟨o3.gen + 1, .arr true false 2 [enc p]⟩ := y22 (by omega)
    have b4 : (H.set 3 ⟨o3.gen + 1, .arr true false 2 [enc p]⟩)[4]? = some o4 := by rw [yi (by omega)]; exact h4
    have hr2 : ye (H.set 3 ⟨o3.gen + 1, .arr true false 2 [enc p]⟩) 3 (o3.gen + 1) = some (false, 2, [enc p]) := by simp only [ye, y1p, b2, if_true]
    have la : evLd false 1 (.lp 3 (o3.gen + 1) 0 0) (H.set 3 ⟨o3.gen + 1, .arr true false 2 [enc p]⟩) = some (.str p.a) := by rw [y6z, hr2]; rfl
    have lb : evLd false 1 (.lp 3 (o3.gen + 1) 0 1) (H.set 3 ⟨o3.gen + 1, .arr true false 2 [enc p]⟩) = some (.str p.b) := by rw [y6z, hr2]; rfl
    have ixa0 : ybr 2 1 (.lp 3 (o3.gen + 1) 0 0) (.int .i64 0) = some (.lp 3 (o3.gen + 1) 0 0) := rfl
    have ixa1 : ybr 2 1 (.lp 3 (o3.gen + 1) 0 0) (.int .i64 1) = some (.lp 3 (o3.gen + 1) 0 1) := rfl
    rw [yd5]
    simp only [yjp, yh, hc, decide_true, y4, ykj, y1q, yr1, k1, y4s, k2, n3, yc, s3, y1x, y1f, Nat.zero_add, R2.ld0, ixa0, ixa1, la, lb]
    generalize H.set 3 ⟨o3.gen + 1, .arr true false 2 [enc p]⟩ = H2 at *
    have hbld : y12 [.int .i64 0, .str [], .str [], .nils, .nils, .nils, .nils] [(1, 1, .str p.a), (2, 1, .str p.b), (6, 1, slA (yel p.a))] = some (.agg (enc (ownC (p.a, p.b)))) := by
      rw [yq3]
      show _ = some (AV.agg [.int .i64 0, .str p.a, .str p.b, .nils, .nils, .nils, slA (yel p.a)])
      cases yel p.a <;> rfl
    have hput := yig cV R2.h0 p.a (ownC (p.a, p.b)) hnew
    rw [yot]
    simp only [ofp, ygh, yc, hbld, y4, hput]
    rw [ybz (by rfl)]
    have R3 := R2.put p.a (ownC (p.a, p.b))
    rw [happ] at R3 ⊢
    have b4' : (H2.set 0 ⟨1, .map false (tE cV (y26.take (i + 1)))⟩)[4]? = some o4 := by rw [yi (by omega)]; exact b4
    have b3' : (H2.set 0 ⟨1, .map false (tE cV (y26.take (i + 1)))⟩)[3]? = some ⟨o3.gen + 1, .arr true false 2 [enc p]⟩ := by rw [yi (by omega)]; exact b2
    have hr3 : ye (H2.set 0 ⟨1, .map false (tE cV (y26.take (i + 1)))⟩) 3 (o3.gen + 1) = some (false, 2, [enc p]) := by simp only [ye, y1p, b3', if_true]
    have la3 : evLd false 1 (.lp 3 (o3.gen + 1) 0 0) (H2.set 0 ⟨1, .map false (tE cV (y26.take (i + 1)))⟩) = some (.str p.a) := by rw [y6z, hr3]; rfl
    generalize H2.set 0 ⟨1, .map false (tE cV (y26.take (i + 1)))⟩ = H3 at *
    have bs : y19 0 (some 4) 1 1 [.str []] [(0, .str p.a)] H3 = some (.ls 4 (o4.gen + 1) 1 0 1, H3.set 4 ⟨o4.gen + 1, .arr false false 1 ([Tx.mk p.a].map enc)⟩) := by
      have := yl3 (H := H3) (fb := 0) (j := 4) p.a (by rw [Nat.zero_add]; exact b4')
      simpa using this
    have R4 := R3.other (x := 4) (v := ⟨o4.gen + 1, .arr false false 1 ([Tx.mk p.a].map enc)⟩) (by omega)
    have hl3 := R3.len
    have hy := yaf (H := H3.set 4 ⟨o4.gen + 1, .arr false false 1 ([Tx.mk p.a].map enc)⟩) (id := 4) (g := o4.gen + 1) (s := p.a) (y22 (by omega))
    obtain ⟨g', hap⟩ := yae (α := Tx) (fb := 0) (j := 5) (b := 16) (M := [Tx.mk p.a]) hy (by rw [Nat.zero_add]; exact R4.h5) (by
      have : ((ownP.take i).map y95).length ≤ 13 := by rw [List.length_map, List.length_take]; omega
      have e1 : [Tx.mk p.a].length = 1 := rfl
      have e48 : (2:Nat) ^ 48 = 281474976710656 := by decide
      rw [e1, e48]
      omega)
    rw [Nat.zero_add] at hap
    have en : (ownP.take i).map y95 ++ [Tx.mk p.a] = (ownP.take (i + 1)).map y95 := by
      rw [List.take_add_one, hp, List.map_append]; rfl
    rw [en] at hap
    obtain ⟨st, R6⟩ := R4.name ((ownP.take (i + 1)).map y95) g'
    have R3ld := R3.ld1
    simp only [y1x, y4, y1f, Nat.zero_add, R3ld, ixa0, la3, bs, yc]
    simp only [y15d] at hap
    simp only [hap, yc, st]
    rw [ybz (by rfl)]
    simp only [yyi, y1b, hw, y4]
    have := ih (i + 1) _ g' (by omega) R6
    push_cast at this
    exact this
end Go.Vm
