/- Whether two functions are the same. What is told of types' descriptors. Names, the type at a text's beginning, types. What the stack's instructions over numbers take and give. What an instruction wants of its registers, in plain words. When an instruction, a function is well formed, in plain words. What 'kinds' answers. What 'other' answers; all of 'kinds'. What the functions of 'ins' answer of single instructions. Whether one instruction is well formed: 'right'. 'right', whole. A number in a list: the library's 'Contains'. Whether a function is well formed: 'Check': its lists of registers, parameters, rows. InsCopies: a copy is the function, and shares nothing with it. What a function that is handed in is fit for, for a check. -/
import Derived.Test.YtgbajicpokolcaaDX
import Derived.Test.YtgbajicpokolcaaDTa
set_option linter.unusedSimpArgs false
set_option linter.unusedVariables false
set_option linter.unusedSectionVars false
namespace Go.Vm
open Cel
attribute [local simp] y5 y1q yq
def y2m : List Ins → List Ins → Bool
  | [], [] => true
  | x :: xs, y :: ys => y2x x y && y2m xs ys
  | _, _ => false
def ylr (a b : Fn) : Bool := decide (lst a.regs = lst b.regs) && decide (lst a.params = lst b.params) && decide (a.ret = b.ret) && y2m (lst a.code) (lst b.code) && decide (lst a.rows = lst b.rows)
theorem yau : ∀ {a b : List Ins}, y2m a b = true → a.length = b.length
  | [], [], _ => rfl
  | x :: a, y :: b, h => by
    simp only [y2m, Bool.and_eq_true] at h
    simp [yau h.2]
  | [], _ :: _, h => by cases h
  | _ :: _, [], h => by cases h
theorem y9m : ∀ (a : List Ins), y2m a a = true
  | [] => rfl
  | x :: a => by simp [y2m, y9m a, y2x]
theorem yl2 (f : Fn) : ylr f f = true := by simp [ylr, y9m]
theorem yy1 (r s : Row) : yvc true [0, 0, 0, 2] (.agg (enc r)) (.agg (enc s)) = some (.bool (decide (¬ r = s))) := by
  obtain ⟨a, b, c, d⟩ := r
  obtain ⟨a', b', c', d'⟩ := s
  simp [yvc, y1bo, y8, yv]
  by_cases h1 : a = a' <;> by_cases h2 : b = b' <;> by_cases h3 : c = c' <;> by_cases h4 : d = d' <;> simp [h1, h2, h3, h4]
abbrev HS2 (a b : Fn) : Heap := [⟨1, .arr true false 5 [enc a]⟩, ⟨1, .arr true false 5 [enc b]⟩]
theorem yxn (a b : Fn) (hn : (lst a.rows).length = (lst b.rows).length) (hl : (lst a.rows).length ≤ 9223372036854775807) : ∀ (d i : Nat), i + d = (lst a.rows).length →
    ych (.lp 0 1 0 0) (.lp 1 1 0 0) (.int .i64 i) (HS2 a b) = some ⟨.bool (decide ((lst a.rows).drop i = (lst b.rows).drop i)), [], true, [], []⟩ := by
  intro d
  induction d with
  | zero =>
    intro i hi
    have e1 : (lst a.rows).drop i = [] := List.drop_eq_nil_of_le (by omega)
    have e2 : (lst b.rows).drop i = [] := List.drop_eq_nil_of_le (by omega)
    have hc : ¬ ((i : Int) < ((lst a.rows).length : Int)) := by omega
    rw [yff, e1, e2]
    simp [yjh, yzw, hc]
  | succ d ih =>
    intro i hi
    have h1 : i < (lst a.rows).length := by omega
    have h2 : i < (lst b.rows).length := by omega
    have hc : ((i : Int) < ((lst a.rows).length : Int)) := by omega
    have k1 := yjs (o := a.rows) (i := i) (List.getElem?_eq_getElem h1) .i64
    have k2 := yjs (o := b.rows) (i := i) (List.getElem?_eq_getElem h2) .i64
    rw [yff, ypq h1 h2]
    generalize (lst a.rows)[i] = r at *
    generalize (lst b.rows)[i] = s at *
    have q := yy1 r s
    have ih := ih (i + 1) (by omega)
    push_cast at ih
    by_cases he : r = s
    · simp [yjh, ylx, yr1, hc, k1, k2, he, y2n h1 hl, ih, yy1]
    · simp [yjh, ylx, yr1, hc, k1, k2, he, q]
theorem y13n (a b : Fn) (hn : (lst a.code).length = (lst b.code).length) (hl : (lst a.code).length ≤ 9223372036854775807) (ha : ∀ x ∈ lst a.code, (lst x.args).length ≤ 9223372036854775807) (R : Bool)
    (hR : y12d (.lp 0 1 0 0) (.lp 1 1 0 0) (HS2 a b) = some ⟨.bool R, [], true, [], []⟩) : ∀ (d i : Nat), i + d = (lst a.code).length →
    ycw (.lp 0 1 0 0) (.lp 1 1 0 0) (.int .i64 i) (HS2 a b) = some ⟨.bool (y2m ((lst a.code).drop i) ((lst b.code).drop i) && R), [], true, [], []⟩ := by
  intro d
  induction d with
  | zero =>
    intro i hi
    have e1 : (lst a.code).drop i = [] := List.drop_eq_nil_of_le (by omega)
    have e2 : (lst b.code).drop i = [] := List.drop_eq_nil_of_le (by omega)
    have hc : ¬ ((i : Int) < ((lst a.code).length : Int)) := by omega
    rw [ygn, e1, e2]
    simp [ycc, hR, hc, y2m]
  | succ d ih =>
    intro i hi
    have h1 : i < (lst a.code).length := by omega
    have h2 : i < (lst b.code).length := by omega
    have hc : ((i : Int) < ((lst a.code).length : Int)) := by omega
    have k1 := ydt (o := a.code) (i := i) (List.getElem?_eq_getElem h1) .i64
    have k2 := ydt (o := b.code) (i := i) (List.getElem?_eq_getElem h2) .i64
    have hx := ha _ (List.getElem_mem h1)
    rw [ygn, List.drop_eq_getElem_cons h1, List.drop_eq_getElem_cons h2, y2m]
    generalize (lst a.code)[i] = x at *
    generalize (lst b.code)[i] = y at *
    have q := yvi x y hx
    have ih := ih (i + 1) (by omega)
    push_cast at ih
    cases hs : y2x x y with
    | true =>
      rw [hs] at q
      simp [ycc, yh5, yku, hc, k1, k2, q, y2n h1 hl, ih]
    | false =>
      rw [hs] at q
      simp [ycc, yh5, hc, k1, k2, q]
structure FnLen (f : Fn) : Prop where
  regs : (lst f.regs).length ≤ 9223372036854775807
  params : (lst f.params).length ≤ 9223372036854775807
  code : (lst f.code).length ≤ 9223372036854775807
  rows : (lst f.rows).length ≤ 9223372036854775807
  args : ∀ x ∈ lst f.code, (lst x.args).length ≤ 9223372036854775807
set_option maxHeartbeats 1000000 in
theorem y1hj (a b : Fn) (hl : FnLen a) : (y7 E).p 14 [.agg (enc a), .agg (enc b)] = some ⟨.bool (ylr a b), [], true, [], []⟩ := by
  rw [y1f0]
  have i1 := y126 a.regs b.regs hl.regs
  have i2 := y126 a.params b.params hl.params
  unfold ylr
  by_cases h1 : lst a.regs = lst b.regs
  rotate_left
  · simp [y6w, y6u, h1, i1]
  by_cases h2 : lst a.params = lst b.params
  rotate_left
  · simp [y6w, y6u, h1, i1, h2, i2]
  by_cases h3 : a.ret = b.ret
  rotate_left
  · simp [y6w, y6u, h1, i1, h2, i2, h3]
  by_cases h4 : (lst a.code).length = (lst b.code).length
  rotate_left
  · have h4' : ¬ ((lst a.code).length : Int) = ((lst b.code).length : Int) := by omega
    have hs : y2m (lst a.code) (lst b.code) = false := by
      cases hs : y2m (lst a.code) (lst b.code) with
      | false => rfl
      | true => exact (h4 (yau hs)).elim
    simp [y6w, y6u, h1, i1, h2, i2, h3, h4', hs]
  have h4' : ((lst a.code).length : Int) = ((lst b.code).length : Int) := by omega
  by_cases h5 : (lst a.rows).length = (lst b.rows).length
  rotate_left
  · have h5' : ¬ ((lst a.rows).length : Int) = ((lst b.rows).length : Int) := by omega
    have hs : ¬ lst a.rows = lst b.rows := fun h => h5 (by rw [h])
    simp [y6w, y6u, h1, i1, h2, i2, h3, h4', h5', hs]
  have h5' : ((lst a.rows).length : Int) = ((lst b.rows).length : Int) := by omega
  have r := yxn a b h5 hl.rows _ 0 (Nat.zero_add _)
  simp only [List.drop_zero, Int.ofNat_zero] at r
  have c := y13n a b h4 hl.code hl.args _ r _ 0 (Nat.zero_add _)
  simp only [List.drop_zero, Int.ofNat_zero] at c
  have c' : yjp (.lp 0 1 0 0) (.lp 1 1 0 0) (HS2 a b) = _ := c
  simp [y6w, y6u, h1, i1, h2, i2, h3, h4', h5', c']
end Go.Vm
namespace Go.Vm
open Cel
attribute [local simp] y5 y1q yq
def okB (b : UInt8) : Bool := (decide (97 ≤ b.toNat) && decide (b.toNat ≤ 122)) || (decide (65 ≤ b.toNat) && decide (b.toNat ≤ 90)) || (decide (48 ≤ b.toNat) && decide (b.toNat ≤ 57)) || decide (b.toNat = 95) || decide (b.toNat = 36) || decide (b.toNat = 47)
def yeb (s : List UInt8) : Bool := decide (1 ≤ s.length) && decide (s.length ≤ 60) && s.all okB
theorem y0b (s : List UInt8) (i : Nat) (hi : i < s.length) (v18 : AV) :
    q7_4 (.bool false) (.ls 0 1 1 0 s.length) v18 (.int .i64 i) [⟨1, .arr false false 1 (s.map fun b => [.int .u8 b.toNat])⟩] =
      if okB s[i] then q7_3 (.bool false) (.ls 0 1 1 0 s.length) v18 (.int .i64 i) [⟨1, .arr false false 1 (s.map fun b => [.int .u8 b.toNat])⟩] else some ⟨.bool false, [], true, [], []⟩ := by
  have hc : ((i : Int) < (s.length : Int)) := by omega
  generalize hb : s[i].toNat = n
  have e : (s.map fun b => ([.int .u8 b.toNat] : List AV))[i]? = some [.int .u8 (n : Int)] := by
    rw [List.getElem?_map, List.getElem?_eq_getElem hi, ← hb]; rfl
  have ho : okB s[i] = ((decide (97 ≤ n) && decide (n ≤ 122)) || (decide (65 ≤ n) && decide (n ≤ 90)) || (decide (48 ≤ n) && decide (n ≤ 57)) || decide (n = 95) || decide (n = 36) || decide (n = 47)) := by
    rw [okB, hb]
  rw [ho]
  have c1 : ∀ k : Nat, ((k : Int) ≤ (n : Int)) = (k ≤ n) := fun k => by simp
  have f1 : ((97 : Int) ≤ (n : Int)) = (97 ≤ n) := c1 97
  have f2 : ((65 : Int) ≤ (n : Int)) = (65 ≤ n) := c1 65
  have f3 : ((48 : Int) ≤ (n : Int)) = (48 ≤ n) := c1 48
  have g1 : ((n : Int) ≤ (122 : Int)) = (n ≤ 122) := by simp; omega
  have g2 : ((n : Int) ≤ (90 : Int)) = (n ≤ 90) := by simp; omega
  have g3 : ((n : Int) ≤ (57 : Int)) = (n ≤ 57) := by simp; omega
  have d1 : ((n : Int) = (95 : Int)) = (n = 95) := by simp; omega
  have d2 : ((n : Int) = (36 : Int)) = (n = 36) := by simp; omega
  have d3 : ((n : Int) = (47 : Int)) = (n = 47) := by simp; omega
  have step : ∀ (b1 b2 b3 b4 b5 b6 b7 b8 b9 : Bool), decide (97 ≤ n) = b1 → decide (n ≤ 122) = b2 → decide (65 ≤ n) = b3 → decide (n ≤ 90) = b4 → decide (48 ≤ n) = b5 → decide (n ≤ 57) = b6 → decide (n = 95) = b7 → decide (n = 36) = b8 → decide (n = 47) = b9 →
      q7_4 (.bool false) (.ls 0 1 1 0 s.length) v18 (.int .i64 i) [⟨1, .arr false false 1 (s.map fun b => [.int .u8 b.toNat])⟩] =
      if (b1 && b2) || (b3 && b4) || (b5 && b6) || b7 || b8 || b9 then q7_3 (.bool false) (.ls 0 1 1 0 s.length) v18 (.int .i64 i) [⟨1, .arr false false 1 (s.map fun b => [.int .u8 b.toNat])⟩] else some ⟨.bool false, [], true, [], []⟩ := by
    intro b1 b2 b3 b4 b5 b6 b7 b8 b9 h1 h2 h3 h4 h5 h6 h7 h8 h9
    rw [q7_4]
    have e0 : yu 1 (.ls 0 1 1 0 s.length) (.int .i64 i) = some (.lp 0 1 i 0) := by simp [yu, hc, hi]
    have tri : ∀ a b : Bool, (a = false) ∨ (a = true ∧ b = false) ∨ (a = true ∧ b = true) := by intro a b; cases a <;> cases b <;> simp
    have l1 : y3 .geq (.int .u8 (n : Int)) (.int .u8 97) = some (.bool b1) := by rw [yd8]; simp only [f1, h1]
    have l2 : y3 .leq (.int .u8 (n : Int)) (.int .u8 122) = some (.bool b2) := by rw [yd2]; simp only [g1, h2]
    have l3 : y3 .geq (.int .u8 (n : Int)) (.int .u8 65) = some (.bool b3) := by rw [yd8]; simp only [f2, h3]
    have l4 : y3 .leq (.int .u8 (n : Int)) (.int .u8 90) = some (.bool b4) := by rw [yd2]; simp only [g2, h4]
    have l5 : y3 .geq (.int .u8 (n : Int)) (.int .u8 48) = some (.bool b5) := by rw [yd8]; simp only [f3, h5]
    have l6 : y3 .leq (.int .u8 (n : Int)) (.int .u8 57) = some (.bool b6) := by rw [yd2]; simp only [g3, h6]
    have l7 : y3 .eql (.int .u8 (n : Int)) (.int .u8 95) = some (.bool b7) := by rw [y4x]; simp only [d1, h7]
    have l8 : y3 .eql (.int .u8 (n : Int)) (.int .u8 36) = some (.bool b8) := by rw [y4x]; simp only [d2, h8]
    have l9 : y3 .eql (.int .u8 (n : Int)) (.int .u8 47) = some (.bool b9) := by rw [y4x]; simp only [d3, h9]
    clear h1 h2 h3 h4 h5 h6 h7 h8 h9
    simp only [e0, y4, y4f, ybq, e, List.drop_zero, y54, List.head?_cons, l1]
    generalize q7_3 (.bool false) (.ls 0 1 1 0 s.length) v18 (.int .i64 i) [⟨1, .arr false false 1 (s.map fun b => [.int .u8 b.toNat])⟩] = Z
    rcases tri b1 b2 with rfl | ⟨rfl, rfl⟩ | ⟨rfl, rfl⟩ <;> simp only [l2, y11x, yjf, ysg, yy7, yj9, y4, y7p, y45, y2z, y34, y7n, l3, y3r] <;> try (simp; done)
    all_goals rcases tri b3 b4 with rfl | ⟨rfl, rfl⟩ | ⟨rfl, rfl⟩ <;> simp only [l4, y11x, yjf, ysg, yy7, yj9, y4, y7p, y45, y2z, y34, y7n, l5, y3r] <;> try (simp; done)
    all_goals rcases tri b5 b6 with rfl | ⟨rfl, rfl⟩ | ⟨rfl, rfl⟩ <;> simp only [l6, y11x, yjf, ysg, yy7, yj9, y4, y7p, y45, y2z, y34, y7n, l7, y3r] <;> try (simp; done)
    all_goals cases b7 <;> simp only [y11x, yjf, ysg, yy7, yj9, y4, y7p, y45, y2z, y34, y7n, l8, y3r] <;> try (simp; done)
    all_goals cases b8 <;> simp only [y11x, yjf, ysg, yy7, yj9, y4, y7p, y45, y2z, y34, y7n, l9, y3r] <;> try (simp; done)
    all_goals cases b9 <;> simp
  exact step _ _ _ _ _ _ _ _ _ rfl rfl rfl rfl rfl rfl rfl rfl rfl
end Go.Vm
namespace Go.Vm
open Cel
attribute [local simp] y5 y1q yq
theorem y11m (s : List UInt8) (hl : s.length ≤ 60) : ∀ (d i : Nat), i + d = s.length →
    yxe (.bool false) (.ls 0 1 1 0 s.length) (.int .i64 s.length) (.int .i64 i) [⟨1, .arr false false 1 (s.map fun b => [.int .u8 b.toNat])⟩] = some ⟨.bool ((s.drop i).all okB), [], true, [], []⟩ := by
  intro d
  induction d with
  | zero =>
    intro i hi
    have e1 : s.drop i = [] := List.drop_eq_nil_of_le (by omega)
    have hc : ¬ ((i : Int) < (s.length : Int)) := by omega
    rw [yoh, e1]
    simp [q7_6, q7_5, q7_1, hc]
  | succ d ih =>
    intro i hi
    have hlt : i < s.length := by omega
    have hc : ((i : Int) < (s.length : Int)) := by omega
    have := ih (i + 1) (by omega)
    push_cast at this
    have e1 : (s.drop i).all okB = (okB s[i] && (s.drop (i + 1)).all okB) := by rw [List.drop_eq_getElem_cons hlt, List.all_cons]
    have hw : IntKind.wrap .i64 ((i : Int) + 1) = (i : Int) + 1 := y31 (by omega) (by omega)
    rw [yoh, e1]
    simp only [q7_6, q7_5, ym, y4, hc, decide_true, y34, y0b s i hlt]
    cases okB s[i]
    · simp
    · simp [q7_3, hw, this]
@[simp] theorem y1kw (s : List UInt8) : (y7 E).p 60 [.str s, .bool false] = some ⟨.bool (yeb s), [], true, [], []⟩ := by
  rw [x_q7]
  by_cases h1 : ((s.length : Int) < 1)
  · have : ¬ 1 ≤ s.length := by omega
    simp [q7_1, q7_3, q7_4, q7_5, q7_6, q7_8, yxz, ywv, h1, yeb, this]
  by_cases h2 : ((60 : Int) < (s.length : Int))
  · have : ¬ s.length ≤ 60 := by omega
    simp [q7_1, q7_3, q7_4, q7_5, q7_6, q7_8, yxz, ywv, h1, h2, yeb, this]
  · have a1 : 1 ≤ s.length := by omega
    have a2 : s.length ≤ 60 := by omega
    have := y11m s a2 s.length 0 (by omega)
    simp only [List.drop_zero] at this
    simp only [yeb, a1, a2, decide_true, Bool.true_and, ← this]
    simp [ywv, yxz, q7_8, h1, h2, s2bC]
def lead : List UInt8 → Nat
  | [] => 0
  | c :: r => if c = 91 then lead r + 1 else 0
theorem ygt : ∀ s : List UInt8, lead s ≤ s.length
  | [] => Nat.le_refl _
  | c :: r => by
    have := ygt r
    simp only [lead, List.length_cons]
    split <;> omega
theorem y121 : ∀ {s : List UInt8} {i : Nat}, i < lead s → s[i]? = some 91
  | [], i, h => by simp [lead] at h
  | c :: r, i, h => by
    simp only [lead] at h
    split at h
    · rename_i e
      cases i with
      | zero => simp [e]
      | succ i => simpa using y121 (s := r) (by omega)
    · omega
theorem yve : ∀ {s : List UInt8} {c : UInt8}, s[lead s]? = some c → c ≠ 91
  | [], c, h => by simp at h
  | d :: r, c, h => by
    simp only [lead] at h
    split at h
    · exact yve (s := r) (by simpa using h)
    · rename_i e; simp at h; rw [← h]; exact e
def yss (s : List UInt8) : Nat :=
  if 8 < lead s ∨ lead s = s.length then 0
  else if s[lead s]? = some 73 ∨ s[lead s]? = some 74 then lead s + 1
  else if s[lead s]? = some 76 then
    (if (s.drop (lead s + 1)).findIdx (· == 59) < (s.drop (lead s + 1)).length ∧ yeb ((s.take (lead s + 1 + (s.drop (lead s + 1)).findIdx (· == 59))).drop (lead s + 1)) = true then lead s + 1 + (s.drop (lead s + 1)).findIdx (· == 59) + 1 else 0)
  else 0
theorem ixstr {s : List UInt8} {i : Nat} {c : UInt8} (h : s[i]? = some c) : y76 (.str s) (.int .i64 i) = some (.int .u8 c.toNat) := by
  simp [y76, h]
theorem y5o (c : UInt8) (k : UInt8) : ((c.toNat : Int) = (k.toNat : Int)) ↔ c = k := by
  rw [Int.ofNat_inj]; exact ⟨fun h => UInt8.toNat_inj.1 h, fun h => by rw [h]⟩
theorem y05 (s : List UInt8) (hs : s.length ≤ 9223372036854775807) (h : Heap) : ∀ (d i : Nat), i + d = lead s → yij (.str s) (.int .i64 i) h = yer (.str s) (.int .i64 (lead s)) h := by
  intro d
  induction d with
  | zero =>
    intro i hi
    obtain rfl : i = lead s := by omega
    rw [yio]
    have := ygt s
    by_cases hc : lead s < s.length
    · have e := List.getElem?_eq_getElem hc
      have hne := yve e
      have hc' : ((lead s : Int) < (s.length : Int)) := by omega
      have hb : ¬ ((s[lead s].toNat : Int) = 91) := fun hh => hne ((y5o _ 91).1 hh)
      simp [ywe, hc', ixstr e, hb]
    · have hc' : ¬ ((lead s : Int) < (s.length : Int)) := by omega
      simp [ywe, hc']
  | succ d ih =>
    intro i hi
    have e := y121 (s := s) (i := i) (by omega)
    have := ygt s
    have hc' : ((i : Int) < (s.length : Int)) := by omega
    have ih := ih (i + 1) (by omega)
    push_cast at ih
    rw [yio]
    simp [ywe, hc', ixstr e, y19g, y2n (show i < s.length by omega) hs, ih]
theorem yyy (s : List UInt8) (hs : s.length ≤ 9223372036854775807) (n : Nat) (h : Heap) : ∀ (d i : Nat), n + 1 ≤ i → i + d = s.length →
    y0d (.str s) (.int .i64 n) (.int .i64 i) h =
      some ⟨.int .i64 (if (s.drop i).findIdx (· == 59) < (s.drop i).length ∧ yeb ((s.take (i + (s.drop i).findIdx (· == 59))).drop (n + 1)) = true then (i + (s.drop i).findIdx (· == 59) + 1 : Nat) else (0 : Nat)), [], true, [], []⟩ := by
  intro d
  induction d with
  | zero =>
    intro i h1 hi
    rw [yo9]
    have e1 : s.drop i = [] := List.drop_eq_nil_of_le (by omega)
    have hc : ¬ ((i : Int) < (s.length : Int)) := by omega
    simp [yrw, q9_1, hc, e1]
  | succ d ih =>
    intro i h1 hi
    rw [yo9]
    have hlt : i < s.length := by omega
    have e := List.getElem?_eq_getElem hlt
    have hc : ((i : Int) < (s.length : Int)) := by omega
    have hd : s.drop i = s[i] :: s.drop (i + 1) := List.drop_eq_getElem_cons hlt
    by_cases hb : s[i] = 59
    · have hb' : ((s[i].toNat : Int) = 59) := (y5o _ 59).2 hb
      have hf : (s.drop i).findIdx (· == 59) = 0 := by rw [hd, List.findIdx_cons]; simp [hb]
      have hw1 : IntKind.wrap .i64 ((n : Int) + 1) = (n : Int) + 1 := y2n (show n < s.length by omega) hs
      have hsl : y13q (.str s) (some (.int .i64 ((n : Int) + 1))) (some (.int .i64 (i : Int))) = some (.str ((s.take i).drop (n + 1))) := by
        have a1 : ((0 : Int) ≤ (i : Int) ∧ (i : Int) ≤ (s.length : Int)) := by omega
        have a2 : ((0 : Int) ≤ (n : Int) + 1 ∧ (n : Int) + 1 ≤ (i : Int)) := by omega
        simp only [y13q, yaq, yka, if_pos a1, Int.toNat_natCast, if_pos a2]
        rfl
      rw [hf]
      have hlen : 0 < (s.drop i).length := by rw [List.length_drop]; omega
      cases hn : yeb ((s.take i).drop (n + 1)) with
      | true =>
        simp only [yrw, q9_7, q9_6, q9_5, ycx, y4, ym, hc, decide_true, y34, ixstr e, y4x, hb', y3q, hw1, hsl]
        simp [hn, hlt, y2n hlt hs]
        omega
      | false =>
        simp only [yrw, q9_7, q9_6, q9_5, ycx, y4, ym, hc, decide_true, y34, ixstr e, y4x, hb', y3q, hw1, hsl]
        simp [hn, q9_4]
    · have hb' : ¬ ((s[i].toNat : Int) = 59) := fun hh => hb ((y5o _ 59).1 hh)
      have hf : (s.drop i).findIdx (· == 59) = (s.drop (i + 1)).findIdx (· == 59) + 1 := by
        rw [hd, List.findIdx_cons]
        have : (s[i] == 59) = false := by simpa using hb
        rw [this]; rfl
      have hl : (s.drop i).length = (s.drop (i + 1)).length + 1 := by rw [hd]; rfl
      have ih := ih (i + 1) (by omega) (by omega)
      push_cast at ih
      rw [hf, hl]
      have e2 : i + ((s.drop (i + 1)).findIdx (· == 59) + 1) = i + 1 + (s.drop (i + 1)).findIdx (· == 59) := by omega
      rw [e2]
      simp only [yrw, q9_7, q9_6, q9_3, ycx, y4, ym, hc, decide_true, y34, y7n, ixstr e, y4x, hb', decide_false, y3q, y2n hlt hs, ih]
      simp only [Nat.add_lt_add_iff_right]
      push_cast
      rfl
@[simp] theorem y1hf (s : List UInt8) (hs : s.length ≤ 9223372036854775807) : (y7 E).p 44 [.str s] = some ⟨.int .i64 (yss s), [], true, [], []⟩ := by
  rw [x_q9]
  have h0 := y05 s hs [] (lead s) 0 (by omega)
  simp only [Int.ofNat_zero] at h0
  have hle := ygt s
  have key : yer (.str s) (.int .i64 (lead s)) [] = some ⟨.int .i64 (yss s), [], true, [], []⟩ := by
    unfold yss
    by_cases h8 : 8 < lead s
    · have h8' : ((8 : Int) < (lead s : Int)) := by omega
      simp [yer, h8', h8]
    by_cases hl : lead s = s.length
    · have h8' : ¬ ((8 : Int) < (lead s : Int)) := by omega
      have hl' : ((lead s : Int) = (s.length : Int)) := by omega
      have h9' : ¬ ((8 : Int) < (s.length : Int)) := by omega
      simp [yer, h8', h9', hl', hl]
    · have h8' : ¬ ((8 : Int) < (lead s : Int)) := by omega
      have hl' : ¬ ((lead s : Int) = (s.length : Int)) := by omega
      have hlt : lead s < s.length := by omega
      have e := List.getElem?_eq_getElem hlt
      rw [if_neg (by simp [h8, hl]), e]
      have hw := y2n hlt hs
      by_cases c1 : s[lead s] = 73
      · have c1' : ((s[lead s].toNat : Int) = 73) := (y5o _ 73).2 c1
        simp [yer, ysv, yst, ykz, h8', hl', ixstr e, c1', c1, hw]
      by_cases c2 : s[lead s] = 74
      · have c2' : ((s[lead s].toNat : Int) = 74) := (y5o _ 74).2 c2
        simp [yer, ysv, yst, ykz, h8', hl', ixstr e, c2', c2, hw]
      have c1' : ¬ ((s[lead s].toNat : Int) = 73) := fun hh => c1 ((y5o _ 73).1 hh)
      have c2' : ¬ ((s[lead s].toNat : Int) = 74) := fun hh => c2 ((y5o _ 74).1 hh)
      by_cases c3 : s[lead s] = 76
      · have c3' : ((s[lead s].toNat : Int) = 76) := (y5o _ 76).2 c3
        have := yyy s hs (lead s) [] _ (lead s + 1) (Nat.le_refl _) (show lead s + 1 + (s.length - (lead s + 1)) = s.length by omega)
        push_cast at this
        simp [yer, ysv, yst, ykz, y145, y16s, y18i, h8', hl', ixstr e, c1', c2', c3', c1, c2, c3, hw, this]
        split <;> simp
      · have c3' : ¬ ((s[lead s].toNat : Int) = 76) := fun hh => c3 ((y5o _ 76).1 hh)
        simp [yer, ysv, yst, ykz, y145, y16s, q9_1, h8', hl', ixstr e, c1', c2', c3', c1, c2, c3]
  rw [← key, ← h0]
  simp [y18x, y1dg]
def yg8 (s : List UInt8) : Bool := decide (s ≠ []) && decide (yss s = s.length)
@[simp] theorem y1g6 (s : List UInt8) (hs : s.length ≤ 9223372036854775807) : (y7 E).p 37 [.str s] = some ⟨.bool (yg8 s), [], true, [], []⟩ := by
  rw [x_q8]
  have h := y1hf s hs
  by_cases h1 : s = []
  · simp [q8_1, h1, yg8]
  · have e : ((yss s : Int) = (s.length : Int)) ↔ yss s = s.length := by omega
    simp [q8_1, h1, yg8, h, e]
end Go.Vm
namespace Go.Vm
open Cel
attribute [local simp] y5 y1q yq
def numK (c : Int) : Int × Int × Int :=
  if c ∈ [96, 100, 104, 108, 112, 120, 122, 124, 126, 128, 130] then (1, 1, 1)
  else if c ∈ [97, 101, 105, 109, 113, 127, 129, 131] then (2, 2, 2)
  else if c ∈ [121, 123, 125] then (2, 1, 2)
  else if c = 148 then (2, 2, 1)
  else if c ∈ [116, 145, 146, 147] then (1, 0, 1)
  else if c = 117 then (2, 0, 2)
  else if c = 133 then (1, 0, 2)
  else if c = 136 then (2, 0, 1)
  else (0, 0, 0)
def yty (r : Option (Ex AV)) (k : Int × Int × Int) : Bool :=
  match r with
  | some ⟨.tup [.int .i64 a, .int .i64 b, .int .i64 c], [], true, [], []⟩ => a == k.1 && b == k.2.1 && c == k.2.2
  | _ => false
theorem yyc {r : Option (Ex AV)} {k : Int × Int × Int} (h : yty r k = true) : r = some ⟨.tup [.int .i64 k.1, .int .i64 k.2.1, .int .i64 k.2.2], [], true, [], []⟩ := by
  unfold yty at h
  split at h
  · simp only [Bool.and_eq_true, beq_iff_eq] at h
    obtain ⟨⟨h1, h2⟩, h3⟩ := h
    rw [h1, h2, h3]
  · cases h
theorem y04 {n : Nat} {f : Nat → Bool} (h : ((List.range n).all f) = true) (i : Nat) (hi : i < n) : f i = true := by
  rw [List.all_eq_true] at h
  exact h i (List.mem_range.2 hi)
theorem y1gp : ((List.range 60).all fun i => yty ((both E 30).1.p 50 [.int .i64 (95 + i)]) (numK (95 + i))) = true := by kernel_rfl
theorem y149 {c : Int} (h : c < 96 ∨ 148 < c) : numK c = (0, 0, 0) := by
  simp only [numK, List.mem_cons, List.not_mem_nil, or_false]
  repeat' split
  all_goals first | rfl | omega
theorem y1be (c : Int) : (y7 E).p 50 [.int .i64 c] = some ⟨.tup [.int .i64 (numK c).1, .int .i64 (numK c).2.1, .int .i64 (numK c).2.2], [], true, [], []⟩ := by
  by_cases h : c < 96 ∨ 148 < c
  · rw [y149 h, y1in]
    have h2 : ∀ k : Int, 96 ≤ k → k ≤ 148 → ¬ c = k := by omega
    simp [y19x, ys4, y19f, y1di, y19n, yze, y19k, yej, y1ci, y4s, yvp, y11w, yx6, h2]
    rfl
  · have := y04 y1gp (c - 95).toNat (by omega)
    have e : (95 + ((c - 95).toNat : Int)) = c := by omega
    simp only [e] at this
    exact y181 30 (yyc this)
end Go.Vm
namespace Go.Vm
def ye (x : Ins) : Int × Int × Int × Int × Bool :=
  match x.op with
  | 1 => (0, -1, -1, -1, true)
  | 2 => (3, -1, -1, -1, true)
  | 3 => (3, -1, -1, -1, true)
  | 4 => (0, 0, -1, -1, true)
  | 5 => ((numK x.n).2.2, (numK x.n).1, (numK x.n).2.1, -1, decide (¬ (numK x.n).2.1 = 0))
  | 6 => ((numK x.n).2.2, (numK x.n).1, -1, -1, decide (¬ (numK x.n).1 = 0) && decide ((numK x.n).2.1 = 0))
  | 7 => (-1, 0, -1, -1, true)
  | 8 => (-1, 3, -1, -1, true)
  | 9 => (-1, 3, 1, -1, true)
  | 10 => (-1, 1, -1, -1, true)
  | 11 => (-1, 3, 3, -1, true)
  | 12 => (-1, 3, -1, -1, yg8 x.s)
  | 13 => (0, 3, 1, -1, true)
  | 14 => (-1, 3, 1, 0, true)
  | 15 => (1, 3, -1, -1, true)
  | 16 => (0, 3, -1, -1, decide (0 ≤ x.n))
  | 17 => (-1, 3, 0, -1, decide (0 ≤ x.n))
  | 18 => (0, -1, -1, -1, true)
  | 19 => (-1, 0, -1, -1, true)
  | 20 => (3, -1, -1, -1, true)
  | 21 => (3, 1, -1, -1, yg8 x.s)
  | 22 => (1, 3, -1, -1, yg8 x.s)
  | 23 => (if x.d = -1 then -1 else 0, -1, -1, -1, decide (0 ≤ x.n) && decide ((lst x.args).length ≤ 21))
  | 24 => (if x.d = -1 then -1 else 0, -1, -1, -1, decide (0 < (lst x.args).length) && decide (0 ≤ x.n) && decide ((lst x.args).length ≤ 21))
  | 25 => (if x.d = -1 then -1 else 0, -1, -1, -1, decide (0 < (lst x.args).length) && decide ((lst x.args).length ≤ 21))
  | 26 => (if x.d = -1 then -1 else 0, -1, -1, -1, decide (0 ≤ x.n) && decide ((lst x.args).length ≤ 21))
  | 27 => (-1, -1, -1, -1, true)
  | 28 => (-1, 1, 1, -1, decide (0 ≤ x.n) && decide (x.n ≤ 5))
  | 29 => (-1, 3, if x.b = -1 then -1 else 3, -1, decide (x.n = 0) || decide (x.n = 1))
  | 30 => (-1, if x.a = -1 then -1 else 0, -1, -1, true)
  | 31 => (-1, 3, -1, -1, true)
  | 32 => (3, -1, -1, -1, true)
  | 33 => (-1, -1, -1, -1, true)
  | _ => (0, 0, 0, 0, false)
def exK (k : Int × Int × Int × Int × Bool) : Ex AV := ⟨.tup [.agg [.int .i64 k.1, .int .i64 k.2.1, .int .i64 k.2.2.1, .int .i64 k.2.2.2.1], .bool k.2.2.2.2], [], true, [], []⟩
theorem yrt {x : Ins} (h : x.op < 1 ∨ 33 < x.op) : ye x = (0, 0, 0, 0, false) := by
  unfold ye
  split <;> first | rfl | omega
end Go.Vm
namespace Go.Vm
def regK (R : List Int) (r : Int) : Int := if r < 0 then 0 else R.getD r.toNat 0
def inR (R : List Int) (r : Int) : Bool := decide (0 ≤ r) && decide (r < R.length)
def y1w (R : List Int) (w r : Int) : Bool := decide (w < 0) || (inR R r && (decide (w ≤ 0) || decide (regK R r = w)))
def yk5 (R : List Int) (x : Ins) : Bool :=
  match lst x.args with
  | [] => true
  | r :: _ => !(decide (x.op = 24) || decide (x.op = 25)) || decide (regK R r = 3)
def yjj (R : List Int) (x : Ins) : Bool := !calls x.op || (yk5 R x && (lst x.args).all (inR R))
def y3d (R : List Int) (ret : Int) (n : Nat) (x : Ins) : Bool :=
  if x.op = 1 then decide (¬ regK R x.d = 3) && (decide (regK R x.d = 2) || decide (x.n = IntKind.wrap .i64 (IntKind.wrap .i32 x.n)))
  else if x.op = 4 then decide (regK R x.d = regK R x.a)
  else if x.op = 7 then decide (¬ regK R x.a = 3)
  else if x.op = 30 then (decide (x.a = -1) == decide (ret = 0)) && (decide (x.a = -1) || decide (regK R x.a = ret))
  else !leads x.op || (decide (0 ≤ x.t) && decide (x.t < n))
def y9b (f : Fn) (x : Ins) : Bool :=
  (ye x).2.2.2.2 && y1w (lst f.regs) (ye x).1 x.d && y1w (lst f.regs) (ye x).2.1 x.a && y1w (lst f.regs) (ye x).2.2.1 x.b && y1w (lst f.regs) (ye x).2.2.2.1 x.c &&
    yjj (lst f.regs) x && y3d (lst f.regs) f.ret (lst f.code).length x
theorem y18w {R : List Int} {r : Int} (h : inR R r = true) : 0 ≤ r ∧ r.toNat < R.length ∧ R[r.toNat]? = some (regK R r) := by
  simp only [inR, Bool.and_eq_true, decide_eq_true_eq] at h
  have h1 : r.toNat < R.length := by omega
  refine ⟨h.1, h1, ?_⟩
  rw [regK, if_neg (by omega), List.getD_eq_getElem?_getD, List.getElem?_eq_getElem h1]; rfl
def y81 (C : List Ins) (i : Nat) (x : Ins) : Bool :=
  !((decide (x.op = 32) && (decide (i = 0) || !ends ((C.getD (i - 1) default).op))) || (leads x.op && decide ((C.getD x.t.toNat default).op = 32)))
def y82 (f : Fn) (C : List Ins) : Nat → List Ins → Bool
  | _, [] => true
  | i, x :: r => y9b f x && y81 C i x && y82 f C (i + 1) r
def y8p (C : List Ins) (r : Row) : Bool :=
  !(decide (r.f < 0) || decide (r.t ≤ r.f) || decide ((C.length : Int) < r.t) || decide (r.at_ < 0) || decide ((C.length : Int) ≤ r.at_) || decide (¬ (C.getD r.at_.toNat default).op = 32))
def yeo (R : List Int) : Nat → List Int → List Int → Bool
  | _, _, [] => true
  | i, seen, p :: r => (inR R p && !seen.contains p && decide (i ≤ 20)) && yeo R (i + 1) (seen ++ [p]) r
def wf (f : Fn) : Bool :=
  decide (1 ≤ (lst f.code).length) && decide ((lst f.code).length ≤ 20000) && decide ((lst f.regs).length ≤ 20000) && decide (0 ≤ f.ret) && decide (f.ret ≤ 3) && ends ((lst f.code).getD ((lst f.code).length - 1) default).op &&
    (lst f.regs).all (fun k => decide (1 ≤ k) && decide (k ≤ 3)) && yeo (lst f.regs) 0 [] (lst f.params) && y82 f (lst f.code) 0 (lst f.code) && (lst f.rows).all (y8p (lst f.code))
end Go.Vm
namespace Go.Vm
open Cel
attribute [local simp] y5 y1q yq
@[simp] theorem y1jz (a b c d : AV) (r : List AV) (h : r.length = 4) : yf 0 [a, b, c, d] r = [a, b, c, d] := by
  simp [yf, ← h]
@[simp] theorem y1j7 (h : Heap) (a b c d : Int) (o : Bool) : yd h (.tup [.agg [.int .i64 a, .int .i64 b, .int .i64 c, .int .i64 d], .bool o]) = some (exK (a, b, c, d, o)) := rfl
@[simp] theorem y1kh (a b c d : Int) : yt [.int .i64 0, .int .i64 0, .int .i64 0, .int .i64 0] [(0, 1, .int .i64 a), (1, 1, .int .i64 b), (2, 1, .int .i64 c), (3, 1, .int .i64 d)] = some (.agg [.int .i64 a, .int .i64 b, .int .i64 c, .int .i64 d]) := rfl
@[simp] theorem y1j2 : yt [.int .i64 0, .int .i64 0, .int .i64 0, .int .i64 0] [] = some (.agg [.int .i64 0, .int .i64 0, .int .i64 0, .int .i64 0]) := rfl
@[simp] theorem y1iq (h : Heap) (a b c : Int) : fz h y13 (.tup [.int .i64 a, .int .i64 b, .int .i64 c]) = some ⟨.tup [.int .i64 a, .int .i64 b, .int .i64 c], true, []⟩ := rfl
@[simp] theorem y1ji (h : Heap) (a b c d : Int) (o : Bool) : fz h y13 (.tup [.agg [.int .i64 a, .int .i64 b, .int .i64 c, .int .i64 d], .bool o]) = some ⟨.tup [.agg [.int .i64 a, .int .i64 b, .int .i64 c, .int .i64 d], .bool o], true, []⟩ := rfl
@[simp] theorem agg4 (a b c d : AV) : y3x true 4 [a, b, c, d] = some (.agg [a, b, c, d]) := rfl
set_option maxHeartbeats 4000000 in
theorem y19d (x : Ins) (h : x.op = 1 ∨ x.op = 2 ∨ x.op = 3 ∨ x.op = 4 ∨ x.op = 7 ∨ x.op = 8 ∨ x.op = 9 ∨ x.op = 10 ∨ x.op = 11 ∨ x.op = 13 ∨ x.op = 14 ∨ x.op = 15 ∨ x.op = 16 ∨ x.op = 17 ∨ x.op = 18 ∨ x.op = 19 ∨ x.op = 20 ∨ x.op = 27 ∨ x.op = 31 ∨ x.op = 32 ∨ x.op = 33) : (y7 E).p 47 [.agg (enc x)] = some (exK (ye x)) := by
  rw [yx0]
  rcases h with h|h|h|h|h|h|h|h|h|h|h|h|h|h|h|h|h|h|h|h|h <;> simp [h, ybc, yab, ybo, ybn, yb8, ybi, ybp, ybk, ybf, y62, y66, y65, y6d, y6c, y5s, y6b, y6k, y6m, y6p, y64, y5v, y6f, y6e, y60, y61, y5y, y6j, y6l, y67, y4t, y6r, y6q, y6n, y5t, y63, y5u, y69, y6i, y6o, y42, y5z, y4m, y5w, y68, y5x, yi, y1f, meets, ids1, ye]
theorem y1by (x : Ins) (hs : x.s.length ≤ 9223372036854775807) (h : x.op = 12 ∨ x.op = 21 ∨ x.op = 22) : (y7 E).p 47 [.agg (enc x)] = some (exK (ye x)) := by
  rw [yx0]
  have ht := y1g6 x.s hs
  rcases h with h|h|h <;> simp [h, ht, ybc, yab, ybo, ybn, yb8, ybi, ybp, ybk, ybf, y62, y66, y65, y6d, y6c, y5s, y6b, y6k, y6m, y6p, y64, y5v, y6f, y6e, y60, y61, y5y, y6j, y6l, y67, y4t, y6r, y6q, y6n, y5t, y63, y5u, y69, y6i, y6o, y42, y5z, y4m, y5w, y68, y5x, yi, y1f, meets, ids1, ye]
theorem y1az (x : Ins) (hn : -9223372036854775808 ≤ x.n ∧ x.n < 9223372036854775808) (h : x.op = 5 ∨ x.op = 6) : (y7 E).p 47 [.agg (enc x)] = some (exK (ye x)) := by
  rw [yx0]
  have hk := y1be x.n
  have hw := y31 hn.1 hn.2
  rcases h with h|h
  · simp [h, hk, hw, ybc, yab, ybo, ybn, yb8, ybi, ybp, ybk, ybf, y62, y66, y65, y6d, y6c, y5s, y6b, y6k, y6m, y6p, y64, y5v, y6f, y6e, y60, y61, y5y, y6j, y6l, y67, y4t, y6r, y6q, y6n, y5t, y63, y5u, y69, y6i, y6o, y42, y5z, y4m, y5w, y68, y5x, yi, y1f, meets, ids1, ye]
  · by_cases h0 : (numK x.n).1 = 0
    · simp [h, hk, hw, h0, ybc, yab, ybo, ybn, yb8, ybi, ybp, ybk, ybf, y62, y66, y65, y6d, y6c, y5s, y6b, y6k, y6m, y6p, y64, y5v, y6f, y6e, y60, y61, y5y, y6j, y6l, y67, y4t, y6r, y6q, y6n, y5t, y63, y5u, y69, y6i, y6o, y42, y5z, y4m, y5w, y68, y5x, yi, y1f, meets, ids1, ye]
    · simp [h, hk, hw, h0, ybc, yab, ybo, ybn, yb8, ybi, ybp, ybk, ybf, y62, y66, y65, y6d, y6c, y5s, y6b, y6k, y6m, y6p, y64, y5v, y6f, y6e, y60, y61, y5y, y6j, y6l, y67, y4t, y6r, y6q, y6n, y5t, y63, y5u, y69, y6i, y6o, y42, y5z, y4m, y5w, y68, y5x, yi, y1f, meets, ids1, ye]
theorem y1dx (x : Ins) (h : x.op = 28) : (y7 E).p 47 [.agg (enc x)] = some (exK (ye x)) := by
  rw [yx0]
  by_cases h0 : 0 ≤ x.n
  · simp [h, h0, ybc, yab, ybo, ybn, yb8, ybi, ybp, ybk, ybf, y62, y66, y65, y6d, y6c, y5s, y6b, y6k, y6m, y6p, y64, y5v, y6f, y6e, y60, y61, y5y, y6j, y6l, y67, y4t, y6r, y6q, y6n, y5t, y63, y5u, y69, y6i, y6o, y42, y5z, y4m, y5w, y68, y5x, yi, y1f, meets, ids1, ye]
  · simp [h, h0, ybc, yab, ybo, ybn, yb8, ybi, ybp, ybk, ybf, y62, y66, y65, y6d, y6c, y5s, y6b, y6k, y6m, y6p, y64, y5v, y6f, y6e, y60, y61, y5y, y6j, y6l, y67, y4t, y6r, y6q, y6n, y5t, y63, y5u, y69, y6i, y6o, y42, y5z, y4m, y5w, y68, y5x, yi, y1f, meets, ids1, ye]
end Go.Vm
namespace Go.Vm
open Cel
attribute [local simp] y5 y1q yq
theorem y169 (x : Ins) (h : x.op = 29) : (y7 E).p 51 [.agg (enc x)] = some (exK (ye x)) := by
  rw [y13t]
  by_cases h0 : x.b = -1 <;> by_cases h1 : x.n = 0 <;> simp [h, h0, h1, yjq, yhq, ykl, yki, yhu, yky, ykp, yie, ykv, yds, y8a, yc4, ye8, ycq, ycd, ydn, yc9, ydu, yi, y1f, meets, ye]
theorem y16q (x : Ins) (h : x.op = 30) : (y7 E).p 51 [.agg (enc x)] = some (exK (ye x)) := by
  rw [y13t]
  by_cases h0 : x.a = -1 <;> simp [h, h0, yjq, yhq, ykl, yki, yhu, yky, ykp, yie, ykv, yds, y8a, yc4, ye8, ycq, ycd, ydn, yc9, ydu, yi, y1f, meets, ye]
set_option maxHeartbeats 4000000 in
theorem ygr (x : Ins) (h : x.op = 23 ∨ x.op = 24 ∨ x.op = 25 ∨ x.op = 26) : (y7 E).p 51 [.agg (enc x)] = some (exK (ye x)) := by
  rw [y13t]
  have e1 : ((0 : Int) < ((lst x.args).length : Int)) = (0 < (lst x.args).length) := by simp
  have e2 : (((lst x.args).length : Int) ≤ (21 : Int)) = ((lst x.args).length ≤ 21) := by simp; omega
  by_cases h0 : x.d = -1 <;> by_cases h1 : 0 ≤ x.n <;> by_cases h2 : 0 < (lst x.args).length <;> rcases h with h|h|h|h <;> simp [h, h0, h1, h2, e1, e2, yjq, yhq, ykl, yki, yhu, yky, ykp, yie, ykv, yds, y8a, yc4, ye8, ycq, ycd, ydn, yc9, ydu, yi, y1f, meets, ye]
theorem y19o (x : Ins) (h : x.op < 1 ∨ 33 < x.op) : (y7 E).p 51 [.agg (enc x)] = some (exK (ye x)) := by
  rw [y13t, yrt h]
  rcases h with h|h
  · simp [lo_f h, yjq, yhq, ykl, yki, yhu, yky, ykp, yie, ykv, yds, y8a, yc4, ye8, ycq, ycd, ydn, yc9, ydu, yi, y1f, meets]
  · simp [hi_f h, yjq, yhq, ykl, yki, yhu, yky, ykp, yie, ykv, yds, y8a, yc4, ye8, ycq, ycd, ydn, yc9, ydu, yi, y1f, meets]
theorem y1d6 (x : Ins) (h : x.op = 29 ∨ x.op = 30 ∨ x.op = 23 ∨ x.op = 24 ∨ x.op = 25 ∨ x.op = 26 ∨ x.op < 1 ∨ 33 < x.op) : (y7 E).p 47 [.agg (enc x)] = some (exK (ye x)) := by
  have ho : (y7 E).p 51 [.agg (enc x)] = some (exK (ye x)) := by
    rcases h with h|h|h|h|h|h|h
    · exact y169 x h
    · exact y16q x h
    · exact ygr x (.inl h)
    · exact ygr x (.inr (.inl h))
    · exact ygr x (.inr (.inr (.inl h)))
    · exact ygr x (.inr (.inr (.inr h)))
    · exact y19o x h
  rw [yx0]
  generalize ye x = k at ho
  obtain ⟨a, b, c, d, o⟩ := k
  simp only [exK] at ho
  rcases h with h|h|h|h|h|h|h|h
  iterate 6 (simp [h, ho, ybc, yab, ybo, ybn, yb8, ybi, ybp, ybk, ybf, y62, y66, y65, y6d, y6c, y5s, y6b, y6k, y6m, y6p, y64, y5v, y6f, y6e, y60, y61, y5y, y6j, y6l, y67, y4t, y6r, y6q, y6n, y5t, y63, y5u, y69, y6i, y6o, y42, y5z, y4m, y5w, y68, y5x, yi, y1f, meets])
  · simp [lo_f h, ho, ybc, yab, ybo, ybn, yb8, ybi, ybp, ybk, ybf, y62, y66, y65, y6d, y6c, y5s, y6b, y6k, y6m, y6p, y64, y5v, y6f, y6e, y60, y61, y5y, y6j, y6l, y67, y4t, y6r, y6q, y6n, y5t, y63, y5u, y69, y6i, y6o, y42, y5z, y4m, y5w, y68, y5x, yi, y1f, meets]
  · simp [hi_f h, ho, ybc, yab, ybo, ybn, yb8, ybi, ybp, ybk, ybf, y62, y66, y65, y6d, y6c, y5s, y6b, y6k, y6m, y6p, y64, y5v, y6f, y6e, y60, y61, y5y, y6j, y6l, y67, y4t, y6r, y6q, y6n, y5t, y63, y5u, y69, y6i, y6o, y42, y5z, y4m, y5w, y68, y5x, yi, y1f, meets]
theorem y1bu (x : Ins) (hn : -9223372036854775808 ≤ x.n ∧ x.n < 9223372036854775808) (hs : x.s.length ≤ 9223372036854775807) : (y7 E).p 47 [.agg (enc x)] = some (exK (ye x)) := by
  by_cases h1 : x.op = 1 ∨ x.op = 2 ∨ x.op = 3 ∨ x.op = 4 ∨ x.op = 7 ∨ x.op = 8 ∨ x.op = 9 ∨ x.op = 10 ∨ x.op = 11 ∨ x.op = 13 ∨ x.op = 14 ∨ x.op = 15 ∨ x.op = 16 ∨ x.op = 17 ∨ x.op = 18 ∨ x.op = 19 ∨ x.op = 20 ∨ x.op = 27 ∨ x.op = 31 ∨ x.op = 32 ∨ x.op = 33
  · exact y19d x h1
  by_cases h2 : x.op = 12 ∨ x.op = 21 ∨ x.op = 22
  · exact y1by x hs h2
  by_cases h3 : x.op = 5 ∨ x.op = 6
  · exact y1az x hn h3
  by_cases h4 : x.op = 28
  · exact y1dx x h4
  exact y1d6 x (by omega)
end Go.Vm
namespace Go.Vm
open Cel
attribute [local simp] y5 y1q yq
@[simp] theorem y1ky (x : Ins) : (y7 E).p 24 [.agg (enc x)] = some ⟨.bool (ends x.op), [], true, [], []⟩ := by
  rw [y1j1, y1dj]
  by_cases h1 : x.op = 27
  · simp [h1, ends]
  by_cases h2 : x.op = 30
  · simp [h2, ends]
  by_cases h3 : x.op = 31 <;> simp [h1, h2, h3, ends]
@[simp] theorem y1jp (x : Ins) : (y7 E).p 22 [.agg (enc x)] = some ⟨.bool (leads x.op), [], true, [], []⟩ := by
  rw [y1j3, y1ab]
  by_cases h1 : x.op = 27
  · simp [h1, leads]
  by_cases h2 : x.op = 28
  · simp [h2, leads]
  by_cases h3 : x.op = 29 <;> simp [h1, h2, h3, leads]
@[simp] theorem yjx (x : Ins) : (y7 E).p 17 [.agg (enc x)] = some ⟨.bool (calls x.op), [], true, [], []⟩ := by
  rw [y1k4, y1al]
  by_cases h1 : 23 ≤ x.op
  · by_cases h2 : x.op ≤ 26 <;> simp [h1, h2, calls]
  · simp [h1, calls]
end Go.Vm
namespace Go.Vm
open Cel
attribute [local simp] y5 y1q yq
abbrev HR (f : Fn) (x : Ins) (a b c d : Int) : Heap := [⟨1, .arr true false 5 [enc f]⟩, ⟨1, .arr true false 9 [enc x]⟩, ⟨1, .arr true false 4 [[.int .i64 a, .int .i64 b, .int .i64 c, .int .i64 d]]⟩]
abbrev P0 : AV := .lp 0 1 0 0
abbrev P1 : AV := .lp 1 1 0 0
abbrev P2 : AV := .lp 2 1 0 0
theorem y8n {f : Fn} {r : Int} (h : inR (lst f.regs) r = true) : yu 1 (slA f.regs) (.int .i64 r) = some (.rp [.int .i64 (regK (lst f.regs) r)]) := by
  obtain ⟨h0, h1, h2⟩ := y18w h
  exact y13w h0 h2 .i64
theorem yjz (f : Fn) (x : Ins) (a b c d : Int) (i : Nat) (w r : Int) (v26 : AV) (hi : i < 4) (hw : [a, b, c, d][i]? = some w) :
    y94 P0 P1 P2 (.int .i64 i) (.int .i64 r) v26 (.int .i64 i) (HR f x a b c d) =
      if y1w (lst f.regs) w r then yid P0 P1 P2 v26 (.int .i64 i) (HR f x a b c d) else some ⟨.bool false, [], true, [], []⟩ := by
  have e1 : ygx 4 1 P2 (.int .i64 i) = some (.lp 2 1 0 i) := by
    have : ((i : Int) < (4 : Int)) := by omega
    simp [ygx, this]
  have e2 : ∀ f x, evLd false 1 (.lp 2 1 0 i) (HR f x a b c d) = some (.int .i64 w) := by
    intro f x
    simp only [y4f]
    have : (yg (HR f x a b c d) 2 1) = some (false, 4, [[.int .i64 a, .int .i64 b, .int .i64 c, .int .i64 d]]) := rfl
    rw [this]
    simp only [List.getElem?_cons_zero, y54]
    match i, hi, hw with
    | 0, _, hw => simp at hw; simp [hw]
    | 1, _, hw => simp at hw; simp [hw]
    | 2, _, hw => simp at hw; simp [hw]
    | 3, _, hw => simp at hw; simp [hw]
  have e2 := e2 f x
  by_cases hw0 : w < 0
  · simp [y94, e1, e2, y1w, hw0]
  by_cases h0 : r < 0
  · have : ¬ 0 ≤ r := by omega
    simp [y94, ydy, e1, e2, y1w, hw0, h0, inR, this]
  by_cases h1 : r < ((lst f.regs).length : Int)
  · have h0' : 0 ≤ r := by omega
    have h1' : ¬ ((lst f.regs).length : Int) ≤ r := by omega
    have hin : inR (lst f.regs) r = true := by simp [inR, h0', h1]
    have hr := y8n hin
    by_cases h2 : 0 < w
    · have h2' : ¬ w ≤ 0 := by omega
      by_cases h3 : regK (lst f.regs) r = w
      · simp [y94, ydy, e1, e2, y1w, hw0, h0, h1', h2, h2', hin, hr, h3]
      · simp [y94, ydy, e1, e2, y1w, hw0, h0, h1', h2, h2', hin, hr, h3]
    · have h2' : w ≤ 0 := by omega
      simp [y94, ydy, e1, e2, y1w, hw0, h0, h1', h2, h2', hin]
  · have h1' : ((lst f.regs).length : Int) ≤ r := by omega
    simp [y94, ydy, e1, e2, y1w, hw0, h0, h1', h1, inR]
theorem yry (f : Fn) (x : Ins) (a b c d : Int) (h1 : x.op = 1 → inR (lst f.regs) x.d = true) (h4 : x.op = 4 → inR (lst f.regs) x.d = true ∧ inR (lst f.regs) x.a = true) (h7 : x.op = 7 → inR (lst f.regs) x.a = true)
    (h30 : x.op = 30 → x.a = -1 ∨ inR (lst f.regs) x.a = true) :
    y6s P0 P1 (HR f x a b c d) = some ⟨.bool (y3d (lst f.regs) f.ret (lst f.code).length x), [], true, [], []⟩ := by
  by_cases o1 : x.op = 1
  · have hr := y8n (h1 o1)
    by_cases k3 : regK (lst f.regs) x.d = 3
    · simp [y6s, y3d, o1, hr, k3]
    · by_cases k2 : regK (lst f.regs) x.d = 2
      · simp [y6s, y3d, o1, hr, k2]
      · simp [y6s, y3d, o1, hr, k2, k3]
  by_cases o4 : x.op = 4
  · have hr := y8n (h4 o4).1
    have hr2 := y8n (h4 o4).2
    simp [y6s, y3d, o4, hr, hr2]
  by_cases o7 : x.op = 7
  · have hr := y8n (h7 o7)
    simp [y6s, y3d, o7, hr]
  by_cases o30 : x.op = 30
  · by_cases ha : x.a = -1
    · by_cases hz : f.ret = 0
      · simp [y6s, y3d, o30, ha, hz]
      · simp [y6s, y3d, o30, ha, hz]
    · have hr := y8n ((h30 o30).resolve_left ha)
      by_cases hz : f.ret = 0
      · simp [y6s, y3d, o30, ha, hz]
      · simp [y6s, y3d, o30, ha, hz, hr]
  · cases hl : leads x.op with
    | false => simp [y6s, ytg, y3d, o1, o4, o7, o30, hl]
    | true =>
      by_cases ht : 0 ≤ x.t
      · simp [y6s, ytg, y3d, o1, o4, o7, o30, hl, ht]
      · simp [y6s, ytg, y3d, o1, o4, o7, o30, hl, ht]
end Go.Vm
namespace Go.Vm
open Cel
attribute [local simp] y5 y1q yq
theorem yiv (f : Fn) (x : Ins) (a b c d : Int) (i : Nat) (r : Int) (v63 v64 : AV) :
    ydw P0 P1 (.int .i64 i) (.int .i64 r) v63 v64 (.int .i64 i) (HR f x a b c d) =
      if inR (lst f.regs) r && (!decide (i = 0) || !(decide (x.op = 24) || decide (x.op = 25)) || decide (regK (lst f.regs) r = 3)) then yyo P0 P1 v63 v64 (.int .i64 i) (HR f x a b c d) else some ⟨.bool false, [], true, [], []⟩ := by
  by_cases h0 : r < 0
  · have : ¬ 0 ≤ r := by omega
    simp [ydw, h0, inR, this]
  by_cases h1 : r < ((lst f.regs).length : Int)
  · have h0' : 0 ≤ r := by omega
    have h1' : ¬ ((lst f.regs).length : Int) ≤ r := by omega
    have hin : inR (lst f.regs) r = true := by simp [inR, h0', h1]
    have hr := y8n hin
    by_cases hi : i = 0
    · subst hi
      by_cases o1 : x.op = 24
      · by_cases h3 : regK (lst f.regs) r = 3
        · simp [ydw, h0, h1', hin, hr, o1, h3]
        · simp [ydw, h0, h1', hin, hr, o1, h3]
      · by_cases o2 : x.op = 25
        · by_cases h3 : regK (lst f.regs) r = 3
          · simp [ydw, h0, h1', hin, hr, o2, h3]
          · simp [ydw, h0, h1', hin, hr, o2, h3]
        · simp [ydw, h0, h1', hin, o1, o2]
    · have hi' : ¬ ((i : Int) = 0) := by omega
      simp [ydw, h0, h1', hin, hi, hi']
  · have h1' : ((lst f.regs).length : Int) ≤ r := by omega
    simp [ydw, h0, h1', h1, inR]
theorem ys9 (f : Fn) (x : Ins) (a b c d : Int) (T : Bool) (hc : calls x.op = true) (hl : (lst x.args).length ≤ 9223372036854775807) (hT : y6s P0 P1 (HR f x a b c d) = some ⟨.bool T, [], true, [], []⟩) :
    ∀ (k i : Nat), i + k = (lst x.args).length → 0 < i →
    yd0 P0 P1 (slA x.args) (.int .i64 (lst x.args).length) (.int .i64 i) (HR f x a b c d) = some ⟨.bool (((lst x.args).drop i).all (inR (lst f.regs)) && T), [], true, [], []⟩ := by
  intro k
  induction k with
  | zero =>
    intro i hi _
    have e1 : (lst x.args).drop i = [] := List.drop_eq_nil_of_le (by omega)
    have hn : ¬ ((i : Int) < ((lst x.args).length : Int)) := by omega
    rw [ydz, e1]
    simp [ye5, ycu, hn, hT]
  | succ k ih =>
    intro i hi h0
    have hlt : i < (lst x.args).length := by omega
    have hn : ((i : Int) < ((lst x.args).length : Int)) := by omega
    have e1 : ((lst x.args).drop i).all (inR (lst f.regs)) = (inR (lst f.regs) (lst x.args)[i] && ((lst x.args).drop (i + 1)).all (inR (lst f.regs))) := by rw [List.drop_eq_getElem_cons hlt, List.all_cons]
    have ih := ih (i + 1) (by omega) (by omega)
    push_cast at ih
    have k1 := y8j (o := x.args) (i := i) (List.getElem?_eq_getElem hlt) .i64
    have hz : ¬ i = 0 := by omega
    rw [ydz, e1]
    simp only [ye5, ycu, ym, y4, hn, decide_true, y34]
    simp only [y124, k1, y4, yl1, y54, List.head?_cons]
    simp only [y13l]
    simp only [y4f]
    simp only [yh9, ybq]
    simp only [List.getElem?_cons_zero, List.drop_zero, yk2, y4]
    simp only [y5, yk8, Option.isSome_none, Bool.and_false, Bool.not_false, Bool.and_self, if_true, y1q, yk, ygg, y10, yjx, yq, yhf, yw, Bool.true_or]
    simp only [y2z, y4, hc, Bool.not_true, y7n, yiv]
    cases inR (lst f.regs) (lst x.args)[i]
    · simp
    · simp [hz, yyo, y2n hlt hl, ih]
theorem ysl (f : Fn) (x : Ins) (a b c d : Int) (T : Bool) (hl : (lst x.args).length ≤ 9223372036854775807) (hT : y6s P0 P1 (HR f x a b c d) = some ⟨.bool T, [], true, [], []⟩) :
    yhr P0 P1 (HR f x a b c d) = some ⟨.bool (yjj (lst f.regs) x && T), [], true, [], []⟩ := by
  have e0 : yhr P0 P1 (HR f x a b c d) = yd0 P0 P1 (slA x.args) (.int .i64 (lst x.args).length) (.int .i64 0) (HR f x a b c d) := by simp [yhr]
  rw [e0, ydz]
  cases ha : lst x.args with
  | nil => simp [ye5, ycu, hT, yjj, yk5, ha]
  | cons r rest =>
    have k1 := y8j (o := x.args) (i := 0) (x := r) (by rw [ha]; rfl) .i64
    have k1 : yu 1 (slA x.args) (.int .i64 0) = some (.rp [.int .i64 r]) := k1
    have hn : ((0 : Int) < ((lst x.args).length : Int)) := by rw [ha]; simp
    have hra := yiv f x a b c d 0 r (slA x.args) (.int .i64 (lst x.args).length)
    simp only [Int.ofNat_zero, decide_true, Bool.not_true, Bool.false_or] at hra
    rw [← ha]
    cases hc : calls x.op with
    | false =>
      simp only [ye5, ycu, ym, y4, hn, decide_true, y34]
      simp only [y124, k1, y4, yl1, y54, List.head?_cons]
      simp only [y13l]
      simp only [y4f]
      simp only [yh9, ybq]
      simp only [List.getElem?_cons_zero, List.drop_zero, yk2, y4]
      simp only [y5, yk8, Option.isSome_none, Bool.and_false, Bool.not_false, Bool.and_self, if_true, y1q, yk, ygg, y10, yjx, yq, yhf, yw, Bool.true_or]
      simp only [y2z, y4, hc, Bool.not_false, y34, hT, yjj, Bool.true_or, Bool.true_and]
    | true =>
      have hlp := ys9 f x a b c d T hc hl hT rest.length 1 (by rw [ha]; simp; omega) (by omega)
      have hd : (lst x.args).drop 1 = rest := by rw [ha]; rfl
      rw [hd] at hlp
      have hlp : yd0 P0 P1 (slA x.args) (.int .i64 (lst x.args).length) (.int .i64 1) (HR f x a b c d) = _ := hlp
      simp only [ye5, ycu, ym, y4, hn, decide_true, y34]
      simp only [y124, k1, y4, yl1, y54, List.head?_cons]
      simp only [y13l]
      simp only [y4f]
      simp only [yh9, ybq]
      simp only [List.getElem?_cons_zero, List.drop_zero, yk2, y4]
      simp only [y5, yk8, Option.isSome_none, Bool.and_false, Bool.not_false, Bool.and_self, if_true, y1q, yk, ygg, y10, yjx, yq, yhf, yw, Bool.true_or]
      simp only [y2z, y4, hc, Bool.not_true, y7n, hra]
      simp only [yjj, yk5, ha, List.all_cons]
      have hw : IntKind.wrap .i64 ((0 : Int) + 1) = 1 := y31 (n := 1) (by omega) (by omega)
      generalize (!(decide (x.op = 24) || decide (x.op = 25)) || decide (regK (lst f.regs) r = 3)) = B
      have hw2 : IntKind.wrap .i64 (1 : Int) = 1 := y31 (n := 1) (by omega) (by omega)
      cases inR (lst f.regs) r with
      | false => cases B <;> simp [hc]
      | true =>
        cases B with
        | false => simp [hc]
        | true =>
          simp only [Bool.and_self, if_true, yyo, y3q, y4]
          rw [show IntKind.wrap .i64 ((0 : Int) + 1) = 1 from hw]
          rw [← ha, hlp]
          simp [hc]
theorem yxj (x : Ins) : (x.op = 1 → (ye x).1 = 0) ∧ (x.op = 4 → (ye x).1 = 0 ∧ (ye x).2.1 = 0) ∧ (x.op = 7 → (ye x).2.1 = 0) ∧ (x.op = 30 → x.a = -1 ∨ (ye x).2.1 = 0) := by
  refine ⟨fun h => ?_, fun h => ?_, fun h => ?_, fun h => ?_⟩ <;> simp [ye, h]
  by_cases ha : x.a = -1 <;> simp [ha]
theorem y8z {R : List Int} {w r : Int} (h : y1w R w r = true) (hw : w = 0) : inR R r = true := by
  subst hw
  simpa [y1w] using h
set_option maxHeartbeats 1000000 in
theorem y1ai (f : Fn) (x : Ins) (hn : -9223372036854775808 ≤ x.n ∧ x.n < 9223372036854775808) (hs : x.s.length ≤ 9223372036854775807) (hl : (lst x.args).length ≤ 9223372036854775807) :
    (y7 E).p 63 [.agg (enc f), .agg (enc x)] = some ⟨.bool (y9b f x), [], true, [], []⟩ := by
  have hk := y1bu x hn hs
  obtain ⟨q1, q4, q7, q30⟩ := yxj x
  rw [y1jq]
  have red : ∀ X : Option (Ex AV), y9b f x = y9b f x → True := fun _ _ => trivial
  have e0 : yi9 (.agg (enc f)) (.agg (enc x)) [⟨0, .dead⟩, ⟨0, .dead⟩, ⟨0, .dead⟩] =
      if (ye x).2.2.2.2 = true then y8c P0 P1 P2 (.agg [.int .i64 x.d, .int .i64 x.a, .int .i64 x.b, .int .i64 x.c]) (.int .i64 0) (HR f x (ye x).1 (ye x).2.1 (ye x).2.2.1 (ye x).2.2.2.1) else some ⟨.bool false, [], true, [], []⟩ := by
    unfold exK at hk
    generalize ye x = k at *
    obtain ⟨a, b, c, d, o⟩ := k
    simp only at hk ⊢
    cases o with
    | true => simp [yi9, yp0, yny, y12v, hk]
    | false => simp [yi9, yp0, yny, hk]
  rw [e0, y9b]
  cases hok : (ye x).2.2.2.2 with
  | false => simp
  | true =>
    simp only [if_true, Bool.true_and]
    have step : ∀ (i : Nat) (w r : Int), i < 4 → [(ye x).1, (ye x).2.1, (ye x).2.2.1, (ye x).2.2.2.1][i]? = some w → [x.d, x.a, x.b, x.c][i]? = some r →
        y8c P0 P1 P2 (.agg [.int .i64 x.d, .int .i64 x.a, .int .i64 x.b, .int .i64 x.c]) (.int .i64 i) (HR f x (ye x).1 (ye x).2.1 (ye x).2.2.1 (ye x).2.2.2.1) =
        if y1w (lst f.regs) w r then y8c P0 P1 P2 (.agg [.int .i64 x.d, .int .i64 x.a, .int .i64 x.b, .int .i64 x.c]) (.int .i64 (i + 1 : Nat)) (HR f x (ye x).1 (ye x).2.1 (ye x).2.2.1 (ye x).2.2.2.1) else some ⟨.bool false, [], true, [], []⟩ := by
      intro i w r hi hw hr
      have hc : ((i : Int) < (4 : Int)) := by omega
      have hv : yh2 false 4 1 (.agg [.int .i64 x.d, .int .i64 x.a, .int .i64 x.b, .int .i64 x.c]) (.int .i64 i) = some (.int .i64 r) := by
        match i, hi, hr with
        | 0, _, hr => simp at hr; simp [yh2, hr]
        | 1, _, hr => simp at hr; simp [yh2, hr]
        | 2, _, hr => simp at hr; simp [yh2, hr]
        | 3, _, hr => simp at hr; simp [yh2, hr]
      have hw2 : IntKind.wrap .i64 ((i : Int) + 1) = ((i + 1 : Nat) : Int) := by rw [y31] <;> omega
      rw [yg1]
      simp only [ymv, ym7, ym, y4, hc, decide_true, y34]
      simp only [yuw, hv, y4]
      rw [yjz f x _ _ _ _ i w r _ hi hw]
      simp only [yid, y3q, y4, hw2]
    have s0 := step 0 _ _ (by omega) rfl rfl
    have s1 := step 1 _ _ (by omega) rfl rfl
    have s2 := step 2 _ _ (by omega) rfl rfl
    have s3 := step 3 _ _ (by omega) rfl rfl
    simp only [Int.ofNat_zero] at s0
    rw [s0]
    cases f0 : y1w (lst f.regs) (ye x).1 x.d with
    | false => simp
    | true =>
      simp only [if_true, Bool.true_and]
      rw [s1]
      cases f1 : y1w (lst f.regs) (ye x).2.1 x.a with
      | false => simp
      | true =>
        simp only [if_true, Bool.true_and]
        rw [s2]
        cases f2 : y1w (lst f.regs) (ye x).2.2.1 x.b with
        | false => simp
        | true =>
          simp only [if_true, Bool.true_and]
          rw [s3]
          cases f3 : y1w (lst f.regs) (ye x).2.2.2.1 x.c with
          | false => simp
          | true =>
            simp only [if_true, Bool.true_and]
            have ht := yry f x (ye x).1 (ye x).2.1 (ye x).2.2.1 (ye x).2.2.2.1 (fun h => y8z f0 (q1 h)) (fun h => ⟨y8z f0 (q4 h).1, y8z f1 (q4 h).2⟩) (fun h => y8z f1 (q7 h)) (fun h => (q30 h).imp id fun h => y8z f1 h)
            rw [← ysl f x _ _ _ _ _ hl ht]
            rw [yg1]
            simp [ymv, ym7]
end Go.Vm
namespace Go.Vm
open Cel
attribute [local simp] y5 y1q yq
theorem y1hh {α : Type} [Cel α] (o : Option (List α)) (i : Nat) (h : i ≤ (lst o).length) (k : IntKind) : ygm (es α) (slA o) none (some (.int k i)) = some (slA (o.map (List.take i))) := by
  have h2 : (0 : Int) ≤ (i : Int) ∧ (i : Int) ≤ ((lst o).length : Int) := by omega
  cases o with
  | none =>
    have : i = 0 := by simpa using h
    subst this
    simp [ygm, slA, ysd, yaq, yka]
  | some L =>
    simp only [y48] at h2
    simp [ygm, slA, ysd, yaq, yka, h2, List.map_take]
theorem ys3 (o : Option (List Int)) (r : Int) (hl : (lst o).length ≤ 9223372036854775807) (h : Heap) : ∀ (d i : Nat), i + d = (lst o).length →
    ∃ k : Int, ye3 (slA o) (.int .i64 r) (.int .i64 (lst o).length) (.int .i64 i) h = some ⟨.int .i64 k, [], true, [], []⟩ ∧ (0 ≤ k ↔ r ∈ (lst o).drop i) := by
  intro d
  induction d with
  | zero =>
    intro i hi
    have e1 : (lst o).drop i = [] := List.drop_eq_nil_of_le (by omega)
    have hn : ¬ ((i : Int) < ((lst o).length : Int)) := by omega
    rw [yfp, e1]
    exact ⟨-1, by simp [yg6, yg5, yet, yf1, ygk, yf7, ya7, hn], by simp⟩
  | succ d ih =>
    intro i hi
    have hlt : i < (lst o).length := by omega
    have hn : ((i : Int) < ((lst o).length : Int)) := by omega
    have k1 := y8j (o := o) (i := i) (List.getElem?_eq_getElem hlt) .i64
    have hm : r ∈ (lst o).drop i ↔ r = (lst o)[i] ∨ r ∈ (lst o).drop (i + 1) := by rw [List.drop_eq_getElem_cons hlt, List.mem_cons]
    rw [yfp, hm]
    by_cases he : r = (lst o)[i]
    · exact ⟨i, by simp [yg6, yg5, yet, yf1, ygk, yf7, ya7, hn, k1, he], by simp [he]⟩
    · obtain ⟨k, h1, h2⟩ := ih (i + 1) (by omega)
      push_cast at h1
      refine ⟨k, ?_, ?_⟩
      · simp [yg6, yg5, yet, yf1, ygk, yf7, ya7, hn, k1, he, y2n hlt hl, h1]
      · rw [h2]; simp [he]
@[simp] theorem yta (o : Option (List Int)) (r : Int) (hl : (lst o).length ≤ 9223372036854775807) : (y7 E).p 46 [slA o, .int .i64 r] = some ⟨.bool ((lst o).contains r), [], true, [], []⟩ := by
  obtain ⟨k, h1, h2⟩ := ys3 o r hl [] (lst o).length 0 (by omega)
  simp only [Int.ofNat_zero, List.drop_zero] at h1 h2
  have hi : (y7 E).p 45 [slA o, .int .i64 r] = some ⟨.int .i64 k, [], true, [], []⟩ := by
    rw [y1ey, ← h1]
    simp [yg6, yg5, yet, yf1, ygk, yf7, ya7]
  rw [y1et]
  by_cases h0 : 0 ≤ k
  · have := h2.1 h0
    simp [yrq, hi, h0, this]
  · have : r ∉ lst o := fun h => h0 (h2.2 h)
    simp [yrq, hi, h0, this]
end Go.Vm
namespace Go.Vm
open Cel
attribute [local simp] y5 y1q yq
abbrev HC (f : Fn) (o1 o2 : AO) : Heap := [⟨1, .arr true false 5 [enc f]⟩, o1, o2]
abbrev E80 : Option (Ex AV) := some ⟨.int .i64 80, [], true, [], []⟩
abbrev E0 : Option (Ex AV) := some ⟨.int .i64 0, [], true, [], []⟩
theorem ytb (f : Fn) (o1 : AO) (n : Int) (hn : n = (lst f.code).length) (hl : (lst f.rows).length ≤ 9223372036854775807) : ∀ (d i : Nat) (o2 : AO), i + d = (lst f.rows).length →
    yfo P0 (.int .i64 n) (slA f.rows) (.int .i64 (lst f.rows).length) (.int .i64 i) (HC f o1 o2) = if ((lst f.rows).drop i).all (y8p (lst f.code)) then E0 else E80 := by
  intro d
  induction d with
  | zero =>
    intro i o2 hi
    have e1 : (lst f.rows).drop i = [] := List.drop_eq_nil_of_le (by omega)
    have hn : ¬ ((i : Int) < ((lst f.rows).length : Int)) := by omega
    rw [yi0, e1]
    simp [y168, y16e, y1bx, hn]
  | succ d ih =>
    intro i o2 hi
    have hlt : i < (lst f.rows).length := by omega
    have hc : ((i : Int) < ((lst f.rows).length : Int)) := by omega
    have k1 := yjs (o := f.rows) (i := i) (List.getElem?_eq_getElem hlt) .i64
    rw [yi0]
    have e1 : ((lst f.rows).drop i).all (y8p (lst f.code)) = (y8p (lst f.code) (lst f.rows)[i] && ((lst f.rows).drop (i + 1)).all (y8p (lst f.code))) := by rw [List.drop_eq_getElem_cons hlt, List.all_cons]
    rw [e1]
    generalize hr : (lst f.rows)[i] = r at *
    have ih := fun o2 => ih (i + 1) o2 (by omega)
    push_cast at ih
    subst hn
    simp only [y168, y16e, ym, y4, hc, decide_true, y34]
    by_cases h1 : r.f < 0
    · simp [yhj, k1, y8p, h1]
    by_cases h2 : r.t ≤ r.f
    · simp [yhj, k1, y8p, h1, h2]
    by_cases h3 : ((lst f.code).length : Int) < r.t
    · simp [yhj, k1, y8p, h1, h2, h3]
    by_cases h4 : r.at_ < 0
    · simp [yhj, k1, y8p, h1, h2, h3, h4]
    by_cases h5 : ((lst f.code).length : Int) ≤ r.at_
    · simp [yhj, k1, y8p, h1, h2, h3, h4, h5]
    · have hx : r.at_.toNat < (lst f.code).length := by omega
      have k2 := ylh (o := f.code) (n := r.at_) (by omega) (List.getElem?_eq_getElem hx) .i64
      have hg : (lst f.code).getD r.at_.toNat default = (lst f.code)[r.at_.toNat] := by rw [List.getD_eq_getElem?_getD, List.getElem?_eq_getElem hx]; rfl
      by_cases h6 : ((lst f.code)[r.at_.toNat]).op = 32
      · simp [yhj, k1, y8p, h1, h2, h3, h4, h5, k2, h6, hx, y1dq, y2n hlt hl, ih]
      · simp [yhj, k1, y8p, h1, h2, h3, h4, h5, k2, h6, hx]
theorem ysq (f : Fn) (o1 o2 : AO) (n : Int) (hl : (lst f.regs).length ≤ 9223372036854775807) : ∀ (d i : Nat), i + d = (lst f.regs).length →
    ya6 P0 (.int .i64 n) (slA f.regs) (.int .i64 (lst f.regs).length) (.int .i64 i) (HC f o1 o2) = if ((lst f.regs).drop i).all (fun k => decide (1 ≤ k) && decide (k ≤ 3)) then yj0 P0 (.int .i64 n) (HC f o1 o2) else E80 := by
  intro d
  induction d with
  | zero =>
    intro i hi
    have e1 : (lst f.regs).drop i = [] := List.drop_eq_nil_of_le (by omega)
    have hn : ¬ ((i : Int) < ((lst f.regs).length : Int)) := by omega
    rw [yf5, e1]
    simp [ync, yqz, hn]
  | succ d ih =>
    intro i hi
    have hlt : i < (lst f.regs).length := by omega
    have hc : ((i : Int) < ((lst f.regs).length : Int)) := by omega
    have k1 := y8j (o := f.regs) (i := i) (List.getElem?_eq_getElem hlt) .i64
    have e1 : ((lst f.regs).drop i).all (fun k => decide (1 ≤ k) && decide (k ≤ 3)) = ((decide (1 ≤ (lst f.regs)[i]) && decide ((lst f.regs)[i] ≤ 3)) && ((lst f.regs).drop (i + 1)).all (fun k => decide (1 ≤ k) && decide (k ≤ 3))) := by
      rw [List.drop_eq_getElem_cons hlt, List.all_cons]
    rw [yf5, e1]
    generalize hr : (lst f.regs)[i] = r at *
    have ih := ih (i + 1) (by omega)
    push_cast at ih
    simp only [ync, yqz, ym, y4, hc, decide_true, y34]
    by_cases h1 : r < 1
    · have : ¬ 1 ≤ r := by omega
      simp [yht, k1, h1, this]
    by_cases h2 : 3 < r
    · have : ¬ r ≤ 3 := by omega
      simp [yht, k1, h1, h2, this]
    · have a1 : 1 ≤ r := by omega
      have a2 : r ≤ 3 := by omega
      simp [yht, k1, h1, h2, a1, a2, y11r, y2n hlt hl, ih]
theorem yiz (f : Fn) (o1 o2 : AO) (n : Int) (hl : (lst f.params).length ≤ 9223372036854775807) : ∀ (d i : Nat), i + d = (lst f.params).length →
    ya5 P0 (.int .i64 n) (slA f.params) (.int .i64 (lst f.params).length) (.int .i64 i) (HC f o1 o2) = if yeo (lst f.regs) i ((lst f.params).take i) ((lst f.params).drop i) then yig P0 (.int .i64 n) (HC f o1 o2) else E80 := by
  intro d
  induction d with
  | zero =>
    intro i hi
    have e1 : (lst f.params).drop i = [] := List.drop_eq_nil_of_le (by omega)
    have hn : ¬ ((i : Int) < ((lst f.params).length : Int)) := by omega
    rw [yeu, e1]
    simp [ynq, yp3, hn, yeo]
  | succ d ih =>
    intro i hi
    have hlt : i < (lst f.params).length := by omega
    have hc : ((i : Int) < ((lst f.params).length : Int)) := by omega
    have k1 := y8j (o := f.params) (i := i) (List.getElem?_eq_getElem hlt) .i64
    have ks := y1hh (α := Int) f.params i (by omega) .i64
    simp only [y1ft] at ks
    have hlm : lst (f.params.map (List.take i)) = (lst f.params).take i := by cases f.params <;> simp
    have e1 : yeo (lst f.regs) i ((lst f.params).take i) ((lst f.params).drop i) = ((inR (lst f.regs) (lst f.params)[i] && !((lst f.params).take i).contains (lst f.params)[i] && decide (i ≤ 20)) && yeo (lst f.regs) (i + 1) ((lst f.params).take (i + 1)) ((lst f.params).drop (i + 1))) := by
      rw [List.drop_eq_getElem_cons hlt, yeo, List.take_append_getElem]
    rw [yeu, e1]
    have hct : (y7 E).p 46 [slA (f.params.map (List.take i)), .int .i64 (lst f.params)[i]] = some ⟨.bool (((lst f.params).take i).contains (lst f.params)[i]), [], true, [], []⟩ := by
      rw [yta _ _ (by rw [hlm, List.length_take]; omega), hlm]
    generalize hr : (lst f.params)[i] = r at *
    generalize ((lst f.params).take i).contains r = B at *
    have ih := ih (i + 1) (by omega)
    push_cast at ih
    simp only [ynq, yp3, ym, y4, hc, decide_true, y34]
    have e20 : ((20 : Int) < (i : Int)) ↔ ¬ i ≤ 20 := by omega
    by_cases h1 : r < 0
    · have : ¬ 0 ≤ r := by omega
      simp [yca, k1, inR, h1, this]
    by_cases h2 : ((lst f.regs).length : Int) ≤ r
    · have : ¬ r < ((lst f.regs).length : Int) := by omega
      simp [yca, k1, inR, h1, h2, this]
    · have a1 : 0 ≤ r := by omega
      have a2 : r < ((lst f.regs).length : Int) := by omega
      cases B with
      | true => simp [yca, k1, inR, h1, h2, a1, a2, ks, hct]
      | false =>
        by_cases h3 : i ≤ 20
        · have h3' : ¬ ((20 : Int) < (i : Int)) := by omega
          simp [yca, k1, inR, h1, h2, a1, a2, ks, hct, h3, h3', yus, y2n hlt hl, ih]
        · have h3' : ((20 : Int) < (i : Int)) := by omega
          simp [yca, k1, inR, h1, h2, a1, a2, ks, hct, h3, h3']
theorem ysz {R : List Int} {ret : Int} {n : Nat} {x : Ins} (h : y3d R ret n x = true) (hl : leads x.op = true) : 0 ≤ x.t ∧ x.t < n := by
  have hne : ¬ x.op = 1 ∧ ¬ x.op = 4 ∧ ¬ x.op = 7 ∧ ¬ x.op = 30 := by
    simp only [leads, Bool.or_eq_true, decide_eq_true_eq] at hl
    omega
  simp only [y3d, hne, if_false, hl, Bool.not_true, Bool.false_or, Bool.and_eq_true, decide_eq_true_eq] at h
  exact h
theorem yl4 {f : Fn} {x : Ins} (h : y9b f x = true) (hl : leads x.op = true) : 0 ≤ x.t ∧ x.t < (lst f.code).length := by
  simp only [y9b, Bool.and_eq_true] at h
  exact ysz h.2 hl
structure InsFit (x : Ins) : Prop where
  n : -9223372036854775808 ≤ x.n ∧ x.n < 9223372036854775808
  s : x.s.length ≤ 9223372036854775807
  a : (lst x.args).length ≤ 9223372036854775807
theorem ys2 (f : Fn) (o2 : AO) (n : Int) (x : Ins) (i g : Nat) (v92 v93 v94 : AV) (hi : i < (lst f.code).length) (hl : (lst f.code).length ≤ 9223372036854775807) (ht : leads x.op = true → 0 ≤ x.t ∧ x.t < (lst f.code).length) :
    y7x P0 (.int .i64 n) (.int .i64 i) (.lp 1 g 0 0) v92 v93 v94 (HC f ⟨g, .arr true false 9 [enc x]⟩ o2) =
      if y81 (lst f.code) i x then yqs P0 (.int .i64 n) v92 v93 v94 (HC f ⟨g, .arr true false 9 [enc x]⟩ o2) else E80 := by
  by_cases h32 : x.op = 32
  · have hld : leads x.op = false := by simp [leads, h32]
    by_cases h0 : i = 0
    · subst h0
      simp [y7x, h32, y81]
    · have h0' : ¬ ((i : Int) = 0) := by omega
      have hp : i - 1 < (lst f.code).length := by omega
      have k1 := ydt (o := f.code) (i := i - 1) (List.getElem?_eq_getElem hp) .i64
      have hw : IntKind.wrap .i64 ((i : Int) - 1) = ((i - 1 : Nat) : Int) := by rw [y31] <;> omega
      have hg : (lst f.code).getD (i - 1) default = (lst f.code)[i - 1] := by rw [List.getD_eq_getElem?_getD, List.getElem?_eq_getElem hp]; rfl
      have hld32 : leads 32 = false := by simp [leads]
      cases he : ends ((lst f.code)[i - 1]).op with
      | true => simp [y7x, h32, y81, h0, h0', hw, k1, hp, he, hld32]
      | false => simp [y7x, h32, y81, h0, h0', hw, k1, hp, he]
  · cases hld : leads x.op with
    | false => simp [y7x, h32, y81, hld]
    | true =>
      obtain ⟨t0, t1⟩ := ht hld
      have hx : x.t.toNat < (lst f.code).length := by omega
      have k2 := ylh (o := f.code) (n := x.t) t0 (List.getElem?_eq_getElem hx) .i64
      by_cases h6 : ((lst f.code)[x.t.toNat]).op = 32
      · simp [y7x, h32, y81, hld, k2, h6, hx]
      · simp [y7x, h32, y81, hld, k2, h6, hx]
theorem yse (f : Fn) (o2 : AO) (n : Int) (hfit : ∀ x ∈ lst f.code, InsFit x) (hl : (lst f.code).length ≤ 9223372036854775807) : ∀ (d i : Nat) (o1 : AO), i + d = (lst f.code).length →
    ∃ o1', y9s P0 (.int .i64 n) (slA f.code) (.int .i64 (lst f.code).length) (.int .i64 i) (HC f o1 o2) = if y82 f (lst f.code) i ((lst f.code).drop i) then yul P0 (.int .i64 n) (HC f o1' o2) else E80 := by
  intro d
  induction d with
  | zero =>
    intro i o1 hi
    have e1 : (lst f.code).drop i = [] := List.drop_eq_nil_of_le (by omega)
    have hn : ¬ ((i : Int) < ((lst f.code).length : Int)) := by omega
    rw [yfg, e1]
    exact ⟨o1, by simp [ylo, yrk, hn, y82]⟩
  | succ d ih =>
    intro i o1 hi
    have hlt : i < (lst f.code).length := by omega
    have hc : ((i : Int) < ((lst f.code).length : Int)) := by omega
    have k1 := ydt (o := f.code) (i := i) (List.getElem?_eq_getElem hlt) .i64
    have e1 : y82 f (lst f.code) i ((lst f.code).drop i) = (y9b f (lst f.code)[i] && y81 (lst f.code) i (lst f.code)[i] && y82 f (lst f.code) (i + 1) ((lst f.code).drop (i + 1))) := by
      rw [List.drop_eq_getElem_cons hlt, y82]
    have fit := hfit _ (List.getElem_mem hlt)
    rw [yfg, e1]
    generalize hx : (lst f.code)[i] = x at *
    have hr := y1ai f x fit.n fit.s fit.a
    simp only [ylo, yrk, ym, y4, hc, decide_true, y34]
    cases hok : y9b f x with
    | false =>
      rw [hok] at hr
      exact ⟨o1, by simp [yiu, yoj, k1, hr]⟩
    | true =>
      rw [hok] at hr
      have e13 : ∀ K : Option (Ex AV), yiu P0 (.int .i64 n) (slA f.code) (.int .i64 (lst f.code).length) (.int .i64 i) (HC f o1 o2) = y7x P0 (.int .i64 n) (.int .i64 i) (.lp 1 (o1.gen + 1) 0 0) (slA f.code) (.int .i64 (lst f.code).length) (.int .i64 i) (HC f ⟨o1.gen + 1, .arr true false 9 [enc x]⟩ o2) := by
        intro _
        simp [yiu, yoj, k1, hr]
      rw [e13 none]
      rw [ys2 f o2 n x i _ _ _ _ hlt hl (fun h => yl4 hok h)]
      cases hs : y81 (lst f.code) i x with
      | false => exact ⟨o1, by simp⟩
      | true =>
        obtain ⟨o1', ih⟩ := ih (i + 1) ⟨o1.gen + 1, .arr true false 9 [enc x]⟩ (by omega)
        push_cast at ih
        exact ⟨o1', by simp [yqs, y2n hlt hl, ih]⟩
structure FnFit (f : Fn) : Prop where
  ins : ∀ x ∈ lst f.code, InsFit x
  code : (lst f.code).length ≤ 9223372036854775807
  regs : (lst f.regs).length ≤ 9223372036854775807
  params : (lst f.params).length ≤ 9223372036854775807
  rows : (lst f.rows).length ≤ 9223372036854775807
theorem y11v (f : Fn) (hf : FnFit f) (o1 o2 : AO) (n : Int) (hn : n = (lst f.code).length) :
    yfc P0 (.int .i64 n) (HC f o1 o2) = if (lst f.regs).all (fun k => decide (1 ≤ k) && decide (k ≤ 3)) && yeo (lst f.regs) 0 [] (lst f.params) && y82 f (lst f.code) 0 (lst f.code) && (lst f.rows).all (y8p (lst f.code)) then E0 else E80 := by
  have a1 := ysq f o1 o2 n hf.regs _ 0 (Nat.zero_add _)
  have a2 := yiz f o1 o2 n hf.params _ 0 (Nat.zero_add _)
  obtain ⟨o1', a3⟩ := yse f o2 n hf.ins hf.code _ 0 o1 (Nat.zero_add _)
  have a4 := ytb f o1' n hn hf.rows _ 0 o2 (Nat.zero_add _)
  simp only [Int.ofNat_zero, List.drop_zero, List.take_zero] at a1 a2 a3 a4
  have e1 : yfc P0 (.int .i64 n) (HC f o1 o2) = ya6 P0 (.int .i64 n) (slA f.regs) (.int .i64 (lst f.regs).length) (.int .i64 0) (HC f o1 o2) := by simp [yfc]
  have e2 : yj0 P0 (.int .i64 n) (HC f o1 o2) = ya5 P0 (.int .i64 n) (slA f.params) (.int .i64 (lst f.params).length) (.int .i64 0) (HC f o1 o2) := by simp [yj0]
  have e3 : yig P0 (.int .i64 n) (HC f o1 o2) = y9s P0 (.int .i64 n) (slA f.code) (.int .i64 (lst f.code).length) (.int .i64 0) (HC f o1 o2) := by simp [yig]
  have e4 : yul P0 (.int .i64 n) (HC f o1' o2) = yfo P0 (.int .i64 n) (slA f.rows) (.int .i64 (lst f.rows).length) (.int .i64 0) (HC f o1' o2) := by simp [yul]
  rw [e1, a1, e2, a2, e3, a3, e4, a4]
  generalize (lst f.regs).all (fun k => decide (1 ≤ k) && decide (k ≤ 3)) = b1
  generalize yeo (lst f.regs) 0 [] (lst f.params) = b2
  generalize y82 f (lst f.code) 0 (lst f.code) = b3
  generalize (lst f.rows).all (y8p (lst f.code)) = b4
  cases b1 <;> cases b2 <;> cases b3 <;> cases b4 <;> rfl
set_option maxHeartbeats 1000000 in
theorem y1ds (f : Fn) (hf : FnFit f) : (y7 E).p 8 [.agg (enc f)] = some ⟨.int .i64 (if wf f then 0 else 80), [], true, [], []⟩ := by
  rw [y1ii]
  have hall := y11v f hf ⟨0, .dead⟩ ⟨0, .dead⟩ _ rfl
  by_cases h1 : (lst f.code).length < 1
  · have h1' : ((lst f.code).length : Int) < 1 := by omega
    have : ¬ 1 ≤ (lst f.code).length := by omega
    simp [y84, y9c, y8t, h1', wf, this]
  have h1' : ¬ ((lst f.code).length : Int) < 1 := by omega
  have g1 : 1 ≤ (lst f.code).length := by omega
  by_cases h2 : 20000 < (lst f.code).length
  · have h2' : (20000 : Int) < ((lst f.code).length : Int) := by omega
    have : ¬ (lst f.code).length ≤ 20000 := by omega
    simp [y84, y9c, y8t, h1', h2', wf, this]
  have h2' : ¬ (20000 : Int) < ((lst f.code).length : Int) := by omega
  have g2 : (lst f.code).length ≤ 20000 := by omega
  by_cases h3 : 20000 < (lst f.regs).length
  · have h3' : (20000 : Int) < ((lst f.regs).length : Int) := by omega
    have : ¬ (lst f.regs).length ≤ 20000 := by omega
    simp [y84, y9c, y8t, h1', h2', h3', wf, this]
  have h3' : ¬ (20000 : Int) < ((lst f.regs).length : Int) := by omega
  have g3 : (lst f.regs).length ≤ 20000 := by omega
  by_cases h4 : f.ret < 0
  · have : ¬ 0 ≤ f.ret := by omega
    simp [y84, y9c, y8t, h1', h2', h3', h4, wf, this]
  have g4 : 0 ≤ f.ret := by omega
  by_cases h5 : 3 < f.ret
  · have : ¬ f.ret ≤ 3 := by omega
    simp [y84, y9c, y8t, h1', h2', h3', h4, h5, wf, this]
  have g5 : f.ret ≤ 3 := by omega
  have hp : (lst f.code).length - 1 < (lst f.code).length := by omega
  have k1 := ydt (o := f.code) (i := (lst f.code).length - 1) (List.getElem?_eq_getElem hp) .i64
  have hw : IntKind.wrap .i64 (((lst f.code).length : Int) - 1) = (((lst f.code).length - 1 : Nat) : Int) := by rw [y31] <;> omega
  have hg : (lst f.code).getD ((lst f.code).length - 1) default = (lst f.code)[(lst f.code).length - 1] := by rw [List.getD_eq_getElem?_getD, List.getElem?_eq_getElem hp]; rfl
  cases he : ends ((lst f.code)[(lst f.code).length - 1]).op with
  | false =>
    have hwf : wf f = false := by rw [wf, hg, he]; simp
    rw [hwf]
    simp [y84, y9c, y8t, h1', h2', h3', h4, h5, hw, k1, he]
  | true =>
    have hwf : wf f = ((lst f.regs).all (fun k => decide (1 ≤ k) && decide (k ≤ 3)) && yeo (lst f.regs) 0 [] (lst f.params) && y82 f (lst f.code) 0 (lst f.code) && (lst f.rows).all (y8p (lst f.code))) := by
      rw [wf, hg, he]
      simp only [g1, g2, g3, g4, g5, decide_true, Bool.true_and]
    have e : y84 (.agg (enc f)) [⟨0, .dead⟩, ⟨0, .dead⟩, ⟨0, .dead⟩] = yfc P0 (.int .i64 (lst f.code).length) (HC f ⟨0, .dead⟩ ⟨0, .dead⟩) := by
      simp [y84, y9c, y8t, h1', h2', h3', h4, h5, hw, k1, he]
    rw [e, hall, hwf]
    split <;> rfl
end Go.Vm
namespace Go.Vm
open Cel
structure GSt (f : Fn) (H : Heap) : Prop where
  f0 : H[0]? = some (AB f)
  g8 : H[8]? = some (GBx (fnJ 1 f))
  h9 : H[9]? = some (AB f)
  regs : ∀ L, f.regs = some L → ∃ M : List Int, M.length = L.length ∧ H[3]? = some ⟨1, .arr false false 1 (M.map enc)⟩
  params : ∀ L, f.params = some L → ∃ M : List Int, M.length = L.length ∧ H[4]? = some ⟨1, .arr false false 1 (M.map enc)⟩
  code : ∀ L, f.code = some L → ∃ R, R.length = L.length ∧ H[5]? = some ⟨1, .arr false false 9 R⟩ ∧ ∀ (i : Nat) x, L[i]? = some x → ∃ row, R[i]? = some row ∧ row.length = 9 ∧ row[8]? = some (ownV (10 + i) 1 x.args)
  rows : ∀ L, f.rows = some L → ∃ R, R.length = L.length ∧ H[6]? = some ⟨1, .arr false false 4 R⟩ ∧ ∀ row ∈ R, row.length = 4
  args : ∀ (i : Nat) x A, (lst f.code)[i]? = some x → x.args = some A → ∃ M : List Int, M.length = A.length ∧ H[10 + i]? = some ⟨1, .arr false false 1 (M.map enc)⟩
theorem ygf {α : Type} [Cel α] {j k : Nat} {o : Option (List α)} (h : k < (lst o).length) : yu (es α) (ownV j 1 o) (.int .i64 (k : Int)) = some (.lp j 1 k 0) := by
  cases o with
  | none => simp at h
  | some L =>
    simp only [y48] at h
    simp [ownV, yu, h]
theorem y8l {α : Type} {o : Option (List α)} {k : Nat} (h : k < (lst o).length) : ∃ L, o = some L := by
  cases o with
  | none => simp at h
  | some L => exact ⟨L, rfl⟩
theorem up {k n : Nat} (h : k < n) (hn : n ≤ 9223372036854775807) : y3 .add (.int .i64 (k : Int)) (.int .i64 1) = some (.int .i64 ((k + 1 : Nat) : Int)) := by
  rw [y3q]
  congr 2
  rw [y31] <;> omega
theorem yex {row : List AV} {k : Nat} {v : AV} (h : k < row.length) : (yf k [v] row).length = row.length := by
  simp [yf]; omega
theorem yt8 {row : List AV} {k i : Nat} {v : AV} (h : k < row.length) (hi : k < i) : (yf k [v] row)[i]? = row[i]? := by
  unfold yf
  rw [List.getElem?_append_right (by simp; omega)]
  simp only [List.length_append, List.length_take, List.length_singleton, List.getElem?_drop]
  congr 1; omega
section
variable {f : Fn} {H : Heap} (S : GSt f H)
include S
theorem GSt.ld (k : Nat) (v : AV) (h : (fnJ 1 f)[k]? = some v) : evLd false 1 (.lp 8 1 0 k) H = some v := ldc S.g8 h
theorem GSt.int {j k : Nat} {M : List Int} (n : Int) (hj : H[j]? = some ⟨1, .arr false false 1 (M.map enc)⟩) (hk : k < M.length) (h3 : j = 3 ∨ j = 4 ∨ 10 ≤ j) : ∃ H', evSt 1 (.lp j 1 k 0) (.int .i64 n) H = some (.tup [], H') ∧ GSt f H' := by
  refine ⟨_, y19v (α := Int) (L := M) (y := n) hj hk rfl, ?_⟩
  have key : ∀ (a : Nat) (L : List Int), (∃ M' : List Int, M'.length = L.length ∧ H[a]? = some ⟨1, .arr false false 1 (M'.map enc)⟩) → ∃ M' : List Int, M'.length = L.length ∧ (H.set j ⟨1, .arr false false (es Int) ((M.set k n).map enc)⟩)[a]? = some ⟨1, .arr false false 1 (M'.map enc)⟩ := by
    rintro a L ⟨M', h1, h2⟩
    by_cases e : j = a
    · subst e
      rw [hj] at h2
      injection h2 with h2
      injection h2 with _ h2
      injection h2 with _ _ _ h2
      have hl : M.length = M'.length := by
        have := congrArg List.length h2
        simpa using this
      exact ⟨M.set k n, by rw [List.length_set, hl, h1], ykm (yef hj)⟩
    · exact ⟨M', h1, by rw [y2o e]; exact h2⟩
  refine ⟨by rw [y2o (by omega)]; exact S.f0, by rw [y2o (by omega)]; exact S.g8, by rw [y2o (by omega)]; exact S.h9, fun L h => key 3 L (S.regs L h), fun L h => key 4 L (S.params L h), fun L h => ?_, fun L h => ?_, fun i x A hx hA => key (10 + i) A (S.args i x A hx hA)⟩
  · obtain ⟨R, h1, h2, h3⟩ := S.code L h
    exact ⟨R, h1, by rw [y2o (by omega)]; exact h2, h3⟩
  · obtain ⟨R, h1, h2, h3⟩ := S.rows L h
    exact ⟨R, h1, by rw [y2o (by omega)]; exact h2, h3⟩
theorem GSt.cell {i k : Nat} (n : Int) (hi : i < (lst f.code).length) (hk : k < 8) : ∃ H', evSt 1 (.lp 5 1 i k) (.int .i64 n) H = some (.tup [], H') ∧ GSt f H' := by
  obtain ⟨L, hL⟩ := y8l hi
  obtain ⟨R, h1, h2, h3⟩ := S.code L hL
  have hlL : lst f.code = L := by rw [hL]; rfl
  rw [hlL] at hi
  obtain ⟨row, r1, r2, r3⟩ := h3 i _ (List.getElem?_eq_getElem hi)
  have hr : yg H 5 1 = some (false, 9, R) := by simp [yg, y3w, h2]
  have st : evSt 1 (.lp 5 1 i k) (.int .i64 n) H = some (.tup [], H.set 5 ⟨1, .arr false false 9 (R.set i (yf k [.int .i64 n] row))⟩) := by
    rw [ydh, hr]
    simp only [r1, show cellsOf (.int .i64 n) = [.int .i64 n] from rfl]
    rw [if_pos ⟨rfl, by omega, rfl⟩, y1b, h2]
  refine ⟨_, st, ⟨by rw [y2o (by omega)]; exact S.f0, by rw [y2o (by omega)]; exact S.g8, by rw [y2o (by omega)]; exact S.h9, fun L h => ?_, fun L h => ?_, fun L' h => ?_, fun L h => ?_, fun j x A hx hA => ?_⟩⟩
  · obtain ⟨M, q1, q2⟩ := S.regs L h
    exact ⟨M, q1, by rw [y2o (by omega)]; exact q2⟩
  · obtain ⟨M, q1, q2⟩ := S.params L h
    exact ⟨M, q1, by rw [y2o (by omega)]; exact q2⟩
  · rw [hL] at h
    injection h with h
    subst h
    refine ⟨_, by rw [List.length_set]; exact h1, ykm (yef h2), fun j x hx => ?_⟩
    rw [List.getElem?_set]
    by_cases e : i = j
    · subst e
      rw [if_pos rfl, if_pos (by omega)]
      refine ⟨_, rfl, by rw [yex (by omega)]; exact r2, ?_⟩
      rw [yt8 (by omega) (by omega), r3]
      rw [List.getElem?_eq_getElem hi] at hx
      injection hx with hx
      rw [hx]
    · rw [if_neg e]
      exact h3 j x hx
  · obtain ⟨R', q1, q2, q3⟩ := S.rows L h
    exact ⟨R', q1, by rw [y2o (by omega)]; exact q2, q3⟩
  · obtain ⟨M, q1, q2⟩ := S.args j x A hx hA
    exact ⟨M, q1, by rw [y2o (by omega)]; exact q2⟩
theorem GSt.row {i k : Nat} (n : Int) (hi : i < (lst f.rows).length) (hk : k < 4) : ∃ H', evSt 1 (.lp 6 1 i k) (.int .i64 n) H = some (.tup [], H') ∧ GSt f H' := by
  obtain ⟨L, hL⟩ := y8l hi
  obtain ⟨R, h1, h2, h3⟩ := S.rows L hL
  have hlL : lst f.rows = L := by rw [hL]; rfl
  rw [hlL] at hi
  have hiR : i < R.length := by omega
  have r1 := List.getElem?_eq_getElem hiR
  have r2 := h3 _ (List.getElem_mem hiR)
  have hr : yg H 6 1 = some (false, 4, R) := by simp [yg, y3w, h2]
  have st : evSt 1 (.lp 6 1 i k) (.int .i64 n) H = some (.tup [], H.set 6 ⟨1, .arr false false 4 (R.set i (yf k [.int .i64 n] R[i]))⟩) := by
    rw [ydh, hr]
    simp only [r1, show cellsOf (.int .i64 n) = [.int .i64 n] from rfl]
    rw [if_pos ⟨rfl, by omega, rfl⟩, y1b, h2]
  refine ⟨_, st, ⟨by rw [y2o (by omega)]; exact S.f0, by rw [y2o (by omega)]; exact S.g8, by rw [y2o (by omega)]; exact S.h9, fun L h => ?_, fun L h => ?_, fun L h => ?_, fun L' h => ?_, fun j x A hx hA => ?_⟩⟩
  · obtain ⟨M, q1, q2⟩ := S.regs L h
    exact ⟨M, q1, by rw [y2o (by omega)]; exact q2⟩
  · obtain ⟨M, q1, q2⟩ := S.params L h
    exact ⟨M, q1, by rw [y2o (by omega)]; exact q2⟩
  · obtain ⟨R', q1, q2, q3⟩ := S.code L h
    exact ⟨R', q1, by rw [y2o (by omega)]; exact q2, q3⟩
  · rw [hL] at h
    injection h with h
    subst h
    refine ⟨_, by rw [List.length_set]; exact h1, ykm (yef h2), fun row hrow => ?_⟩
    rcases List.mem_or_eq_of_mem_set hrow with hq | hq
    · exact h3 row hq
    · subst hq
      rw [yex (by omega)]; exact r2
  · obtain ⟨M, q1, q2⟩ := S.args j x A hx hA
    exact ⟨M, q1, by rw [y2o (by omega)]; exact q2⟩
end
abbrev W1 : AV := .lp 0 1 0 0
abbrev W3 : AV := .lp 8 1 0 0
abbrev W4 : AV := .lp 9 1 0 0
theorem fW (a k : Nat) : evFa k (.lp a 1 0 0) = some (.lp a 1 0 k) := by
  show some (AV.lp a 1 0 (0 + k)) = _
  rw [Nat.zero_add]
section
variable {f : Fn}
theorem ytk (hl : (lst f.params).length ≤ 9223372036854775807) : ∀ (d k : Nat), k + d = (lst f.params).length → ∀ H, GSt f H →
    ∃ H', yji W1 W3 W4 (.int .i64 (lst f.params).length) (.int .i64 (k : Int)) H = y13z W1 W4 H' ∧ GSt f H' := by
  intro d
  induction d with
  | zero =>
    intro k hk H S
    have hn : ¬ ((k : Int) < ((lst f.params).length : Int)) := by omega
    refine ⟨H, ?_, S⟩
    rw [yj7, y162, ym, y4, decide_eq_false hn, y173, y7n]
  | succ d ih =>
    intro k hk H S
    have hlt : k < (lst f.params).length := by omega
    have hc : (k : Int) < ((lst f.params).length : Int) := by omega
    obtain ⟨L, hL⟩ := y8l hlt
    obtain ⟨M, m1, m2⟩ := S.params L hL
    have hkM : k < M.length := by rw [m1]; rw [hL] at hlt; exact hlt
    have l1 := S.ld 1 _ rfl
    have ix : yu 1 (ownV (1 + 3) 1 f.params) (.int .i64 (k : Int)) = some (.lp (1 + 3) 1 k 0) := ygf (α := Int) hlt
    obtain ⟨H1, st, S1⟩ := S.int (-9) m2 hkM (.inr (.inl rfl))
    obtain ⟨H2, q1, q2⟩ := ih (k + 1) (by omega) H1 S1
    refine ⟨H2, ?_, q2⟩
    rw [yj7, y162, ym, y4, decide_eq_true hc, y173, y34, y19t, fW, y4, l1, y4, ix, y4, st, yw, y1bm, up hlt hl, y4]
    exact q1
theorem y1cf (hl : (lst f.rows).length ≤ 9223372036854775807) : ∀ (d k : Nat), k + d = (lst f.rows).length → ∀ H, GSt f H →
    ∃ H', ydb W1 W3 W4 (.int .i64 (lst f.rows).length) (.int .i64 (k : Int)) H = y14n W1 W3 W4 H' ∧ GSt f H' := by
  intro d
  induction d with
  | zero =>
    intro k hk H S
    have hn : ¬ ((k : Int) < ((lst f.rows).length : Int)) := by omega
    refine ⟨H, ?_, S⟩
    rw [yfi, yo0, ym, y4, decide_eq_false hn, yp8, y7n]
  | succ d ih =>
    intro k hk H S
    have hlt : k < (lst f.rows).length := by omega
    have hc : (k : Int) < ((lst f.rows).length : Int) := by omega
    have l1 := S.ld 4 _ rfl
    have ix : yu 4 (ownV (1 + 5) 1 f.rows) (.int .i64 (k : Int)) = some (.lp (1 + 5) 1 k 0) := ygf (α := Row) hlt
    obtain ⟨H1, st, S1⟩ := S.row (i := k) (k := 2) (-9) hlt (by omega)
    obtain ⟨H2, q1, q2⟩ := ih (k + 1) (by omega) H1 S1
    refine ⟨H2, ?_, q2⟩
    have fa : evFa 2 (.lp (1 + 5) 1 k 0) = some (.lp 6 1 k 2) := rfl
    rw [yfi, yo0, ym, y4, decide_eq_true hc, yp8, y34, yux, fW, y4, l1, y4, ix, y4, fa, y4, st, yw, ywj, up hlt hl, y4]
    exact q1
theorem y1am (hl : (lst f.regs).length ≤ 9223372036854775807) : ∀ (d k : Nat), k + d = (lst f.regs).length → ∀ H, GSt f H →
    ∃ H', ycm W1 W3 W4 (.int .i64 (lst f.regs).length) (.int .i64 (k : Int)) H = yqm W1 W3 W4 H' ∧ GSt f H' := by
  intro d
  induction d with
  | zero =>
    intro k hk H S
    have hn : ¬ ((k : Int) < ((lst f.regs).length : Int)) := by omega
    refine ⟨H, ?_, S⟩
    rw [yfz, ynf, ym, y4, decide_eq_false hn, ymy, y7n]
  | succ d ih =>
    intro k hk H S
    have hlt : k < (lst f.regs).length := by omega
    have hc : (k : Int) < ((lst f.regs).length : Int) := by omega
    obtain ⟨L, hL⟩ := y8l hlt
    obtain ⟨M, m1, m2⟩ := S.regs L hL
    have hkM : k < M.length := by rw [m1]; rw [hL] at hlt; exact hlt
    have l1 := S.ld 0 _ rfl
    have ix : yu 1 (ownV (1 + 2) 1 f.regs) (.int .i64 (k : Int)) = some (.lp (1 + 2) 1 k 0) := ygf (α := Int) hlt
    obtain ⟨H1, st, S1⟩ := S.int 9 m2 hkM (.inl rfl)
    obtain ⟨H2, q1, q2⟩ := ih (k + 1) (by omega) H1 S1
    refine ⟨H2, ?_, q2⟩
    rw [yfz, ynf, ym, y4, decide_eq_true hc, ymy, y34, yvk, fW, y4, l1, y4, ix, y4, st, yw, yvs, up hlt hl, y4]
    exact q1
theorem y1bv {i : Nat} {x : Ins} (hx : (lst f.code)[i]? = some x) (hl : (lst x.args).length ≤ 9223372036854775807) (v39 v40 : AV) : ∀ (d k : Nat), k + d = (lst x.args).length → ∀ H, GSt f H →
    ∃ H', yd3 W1 W3 W4 (.int .i64 (i : Int)) v39 v40 (.int .i64 (lst x.args).length) (.int .i64 (k : Int)) H = yra W1 W3 W4 v39 v40 H' ∧ GSt f H' := by
  have hi := (List.getElem?_eq_some_iff.1 hx).1
  obtain ⟨C, hC⟩ := y8l hi
  have hxC : C[i]? = some x := by rw [hC] at hx; exact hx
  intro d
  induction d with
  | zero =>
    intro k hk H S
    have hn : ¬ ((k : Int) < ((lst x.args).length : Int)) := by omega
    refine ⟨H, ?_, S⟩
    rw [yes, ymj, ym, y4, decide_eq_false hn, ymq, y7n]
  | succ d ih =>
    intro k hk H S
    have hlt : k < (lst x.args).length := by omega
    have hc : (k : Int) < ((lst x.args).length : Int) := by omega
    obtain ⟨A, hA⟩ := y8l hlt
    obtain ⟨M, m1, m2⟩ := S.args i x A hx hA
    have hkM : k < M.length := by rw [m1]; rw [hA] at hlt; exact hlt
    have l3 := S.ld 3 _ rfl
    have ixc : yu 9 (ownV (1 + 4) 1 f.code) (.int .i64 (i : Int)) = some (.lp (1 + 4) 1 i 0) := ygf (α := Ins) hi
    obtain ⟨R, r1, r2, r3⟩ := S.code C hC
    obtain ⟨row, r4, r5, r6⟩ := r3 i x hxC
    have hr : yg H 5 1 = some (false, 9, R) := by simp [yg, y3w, r2]
    have l8 : evLd false 1 (.lp 5 1 i 8) H = some (ownV (10 + i) 1 x.args) := by
      rw [y4f, hr]
      simp only [r4, y54, List.head?_drop, r6]
    have fa8 : evFa 8 (.lp (1 + 4) 1 i 0) = some (.lp 5 1 i 8) := rfl
    have ix : yu 1 (ownV (10 + i) 1 x.args) (.int .i64 (k : Int)) = some (.lp (10 + i) 1 k 0) := ygf (α := Int) hlt
    obtain ⟨H1, st, S1⟩ := S.int (-9) m2 hkM (.inr (.inr (by omega)))
    obtain ⟨H2, q1, q2⟩ := ih (k + 1) (by omega) H1 S1
    refine ⟨H2, ?_, q2⟩
    rw [yes, ymj, ym, y4, decide_eq_true hc, ymq, y34, ywh, fW, y4, l3, y4, ixc, y4, fa8, y4, l8, y4, ix, y4, st, yw, yxm, up hlt hl, y4]
    exact q1
theorem y1bn (hl : (lst f.code).length ≤ 9223372036854775807) (ha : ∀ x ∈ lst f.code, (lst x.args).length ≤ 9223372036854775807) : ∀ (d k : Nat), k + d = (lst f.code).length → ∀ H, GSt f H →
    ∃ H', yc1 W1 W3 W4 (.int .i64 (lst f.code).length) (.int .i64 (k : Int)) H = yql W1 W3 W4 H' ∧ GSt f H' := by
  intro d
  induction d with
  | zero =>
    intro k hk H S
    have hn : ¬ ((k : Int) < ((lst f.code).length : Int)) := by omega
    refine ⟨H, ?_, S⟩
    rw [yfb, yo3, ym, y4, decide_eq_false hn, ynl, y7n]
  | succ d ih =>
    intro k hk H S
    have hlt : k < (lst f.code).length := by omega
    have hc : (k : Int) < ((lst f.code).length : Int) := by omega
    have hx := List.getElem?_eq_getElem hlt
    have hax := ha _ (List.getElem_mem hlt)
    generalize (lst f.code)[k] = x at *
    obtain ⟨C, hC⟩ := y8l hlt
    have hxC : C[k]? = some x := by rw [hC] at hx; exact hx
    have l3 := S.ld 3 _ rfl
    have ixc : yu 9 (ownV (1 + 4) 1 f.code) (.int .i64 (k : Int)) = some (.lp (1 + 4) 1 k 0) := ygf (α := Ins) hlt
    have fa0 : evFa 0 (.lp (1 + 4) 1 k 0) = some (.lp 5 1 k 0) := rfl
    have fa5 : evFa 5 (.lp (1 + 4) 1 k 0) = some (.lp 5 1 k 5) := rfl
    have fa8 : evFa 8 (.lp (1 + 4) 1 k 0) = some (.lp 5 1 k 8) := rfl
    obtain ⟨H1, st1, S1⟩ := S.cell (i := k) (k := 0) 99 hlt (by omega)
    obtain ⟨H2, st2, S2⟩ := S1.cell (i := k) (k := 5) 99 hlt (by omega)
    have l3' := S2.ld 3 _ rfl
    obtain ⟨R, r1, r2, r3⟩ := S2.code C hC
    obtain ⟨row, r4, r5, r6⟩ := r3 k x hxC
    have hr : yg H2 5 1 = some (false, 9, R) := by simp [yg, y3w, r2]
    have l8 : evLd false 1 (.lp 5 1 k 8) H2 = some (ownV (10 + k) 1 x.args) := by
      rw [y4f, hr]
      simp only [r4, y54, List.head?_drop, r6]
    obtain ⟨H3, q1, S3⟩ := y1bv hx hax (.int .i64 (lst f.code).length) (.int .i64 (k : Int)) _ 0 (Nat.zero_add _) H2 S2
    obtain ⟨H4, q3, q4⟩ := ih (k + 1) (by omega) H3 S3
    have z0 : ((0 : Nat) : Int) = 0 := rfl
    rw [z0] at q1
    have hp : yi [([], []), (ids1 (.lp 8 1 0 3), []), ([], []), ([], []), (ids1 (.lp 8 1 0 3), []), ([], []), ([], []), ([], []), ([], ids1 (.lp 5 1 k 0)), ([], []), ([], []), ([], ids1 (.lp 5 1 k 5))] [(4, 8)] = true := by
      simp [yi, y1f, meets, ids1]
    refine ⟨H4, ?_, q4⟩
    rw [yfb, yo3, ym, y4, decide_eq_true hc, ynl, y34, y0g, yvm]
    simp only [fW, y4, l3, ixc, fa0, fa5, st1, yw, st2]
    rw [ynx hp, yy4]
    simp only [fW, y4, l3', ixc, fa8, l8, y4y]
    rw [q1, yra, up hlt hl, y4]
    exact q3
end
end Go.Vm
namespace Go.Vm
theorem FnIn.fit3 {f : Fn} (h : FnIn f) : FnFit f := by
  have e : reachBytes = 140737488351232 := rfl
  refine ⟨fun x hx => ?_, ?_, ?_, ?_, ?_⟩
  · have k := h.insI x hx
    refine ⟨⟨k.n.1, ?_⟩, ?_, ?_⟩
    · have := k.n.2; omega
    · have := k.s; omega
    · have := k.len; omega
  · have := h.code; omega
  · have := h.regs; omega
  · have := h.params; omega
  · have := h.rows; omega
end Go.Vm
