/- Code words: what was put is read. Code words: a unit is walked through. Whether two lists of numbers are the same. Whether two lists of numbers, two instructions are the same; a number in a list. EmitNumbers: numbers and texts of any size are told as they are. EmitNumbers: on the machine. EmitNumbers: the law. -/
import Derived.Test.YtjlbafgbohekfaaNX
import Derived.Test.YtjlbafgbohekfaaNTf
set_option linter.unusedSimpArgs false
set_option linter.unusedVariables false
set_option linter.unusedSectionVars false
namespace Go.Vm
open Cel
structure Good (x : Ins) : Prop where
 o0 : 1 ≤ x.op
 o1 : x.op ≤ 33
 d : y4h (defr x)
 a : y4h (on1M x 0)
 b : y4h (on1M x 1)
 ar : calls x.op = true → (lst x.args).length ≤ 21
structure Has (u : Un) (s : BS) : Prop where
 len : (lst u.W).length = s.W.length
 get : ∀ i : Nat, (i : Int) ∉ s.Y → (lst u.W)[i]? = s.W[i]?
 N : lst u.N = s.N
 T : lst u.T = s.T
structure ExtB (s s' : BS) : Prop where
 W : ∃ a, s'.W = s.W ++ a
 N : ∃ a, s'.N = s.N ++ a
 T : ∃ a, s'.T = s.T ++ a
 Y : ∃ a, s'.Y = s.Y ++ a ∧ ∀ y ∈ a, (s.W.length : Int) ≤ y
theorem ExtB.refl (s : BS) : ExtB s s := ⟨⟨[], by simp⟩, ⟨[], by simp⟩, ⟨[], by simp⟩, ⟨[], by simp, fun y h => by cases h⟩⟩
theorem ExtB.len {s s' : BS} (h : ExtB s s') : s.W.length ≤ s'.W.length := by
 obtain ⟨a, e⟩ := h.W
 rw [e, zg]; omega
theorem ExtB.trans {a b c : BS} (h : ExtB a b) (k : ExtB b c) : ExtB a c := by
 obtain ⟨w, hw⟩ := h.W; obtain ⟨w', kw⟩ := k.W
 obtain ⟨n, hn⟩ := h.N; obtain ⟨n', kn⟩ := k.N
 obtain ⟨t, ht⟩ := h.T; obtain ⟨t', kt⟩ := k.T
 obtain ⟨y, hy, hy2⟩ := h.Y; obtain ⟨y', ky, ky2⟩ := k.Y
 have hl := h.len
 refine ⟨⟨w ++ w', by rw [kw, hw, z1m]⟩, ⟨n ++ n', by rw [kn, hn, z1m]⟩, ⟨t ++ t', by rw [kt, ht, z1m]⟩, ⟨y ++ y', by rw [ky, hy, z1m], fun z hz => ?_⟩⟩
 rcases zt.1 hz with hz | hz
 ·exact hy2 z hz
 ·have := ky2 z hz; omega
theorem yc2 (s : BS) (n : Int) : ExtB s (adW s n) := ⟨⟨[⟨n⟩], rfl⟩, ⟨[], by simp [adW]⟩, ⟨[], by simp [adW]⟩, ⟨[], by simp [adW], fun y h => by cases h⟩⟩
theorem y28s (s : BS) (n : Int) : ExtB s (adN s n) := by
 unfold adN
 split
 ·exact .refl s
 ·exact ⟨⟨[], by simp⟩, ⟨[n], rfl⟩, ⟨[], by simp⟩, ⟨[], by simp, fun y h => by cases h⟩⟩
theorem y2ca (s : BS) (n : Tx) : ExtB s (adT s n) := by
 unfold adT
 split
 ·exact .refl s
 ·exact ⟨⟨[], by simp⟩, ⟨[], by simp⟩, ⟨[n], rfl⟩, ⟨[], by simp, fun y h => by cases h⟩⟩
theorem y1eo (s : BS) (t : Int) : ExtB s (wayM s t) := ⟨⟨[⟨wU t⟩], rfl⟩, ⟨[], by simp [wayM, adW]⟩, ⟨[], by simp [wayM, adW]⟩, ⟨[(s.W.length : Int)], rfl, fun y h => by simp at h; omega⟩⟩
theorem yyx : ∀ (l : List Int) (s : BS), ExtB s (yhp l s)
 | [], s => .refl s
 | r :: l, s => (yc2 s (regU r)).trans (yyx l _)
theorem y1va (s : BS) (x : Ins) : ExtB s (y44 s x) := by
 have hn : ExtB s (numW s x.n) := (y28s s x.n).trans (yc2 _ _)
 have ht : ExtB s (yea s x.s) := (y2ca s ⟨x.s⟩).trans (yc2 _ _)
 have ha : ∀ s, ExtB s (yn5 s x) := fun s => (yc2 s _).trans (yyx _ _)
 unfold y44
 split
 ·exact hn
 split
 ·exact ht
 split
 ·exact yc2 _ _
 split
 ·exact y1eo _ _
 split
 ·exact (y1eo _ _).trans (yc2 _ _)
 split
 ·exact ht.trans (ha _)
 split
 ·exact hn.trans (ha _)
 ·exact .refl s
theorem y2gj (s : BS) (x : Ins) : ExtB s (putM s x) := (yc2 s _).trans (y1va _ x)
theorem cut0 (u : Un) (p : Nat) : cutW u ((p : Int) + 1) ((p : Int) + (1 + 0)) = [] := by
 unfold cutW
 rw [z14]
 rw [z3e]
 omega
theorem cut1 {u : Un} {p : Nat} {w : Wd} (h : (lst u.W)[p + 1]? = some w) : cutW u ((p : Int) + 1) ((p : Int) + (1 + 1)) = [w] := by
 obtain ⟨hl, e⟩ := zb.1 h
 unfold cutW
 rw [show ((p : Int) + (1 + 1)).toNat = p + 2 by omega, show ((p : Int) + 1).toNat = p + 1 by omega, List.drop_take, zk hl, e, show p + 2 - (p + 1) = 1 by omega]
 rfl
theorem y1m6 {u : Un} {p : Nat} {x : Ins} (g : Good x) (h : (lst u.W)[p]? = some ⟨y2r x⟩) (hl : (p : Int) + (1 + y1x x.op) ≤ (lst u.W).length) :
  rdM u p = match ydd u (rd0 (y2r x)) (cutW u ((p : Int) + 1) ((p : Int) + (1 + y1x x.op))) with
   | none => (zIns, 0)
   | some y => rdN u p (1 + y1x x.op) y := by
 obtain ⟨_, _, h1, _⟩ := y13o (by have := g.o0; omega) g.o1 g.d g.a g.b
 have ep : ((p : Int)).toNat = p := by omega
 have hd : (lst u.W).getD p default = ⟨y2r x⟩ := by rw [ze, h]; rfl
 have hp := (zb.1 h).1
 have o0 := g.o0
 have o1 := g.o1
 unfold rdM
 rw [if_neg (by omega), ep, hd]
 simp only [h1]
 rw [if_neg (by omega)]
 rfl
theorem yo8 {κ : Type} [DecidableEq κ] {k : κ} : ∀ {L : List κ}, k ∈ L → L[ixOf k L]? = some k
 | [], h => by cases h
 | x :: r, h => by
  rw [ixOf]
  by_cases e : k = x
  ·rw [if_pos e]; simp [e]
  ·rw [if_neg e]
   rcases zq.1 h with h | h
   ·exact (e h).elim
   ·exact yo8 h
theorem y22l (s : BS) (n : Int) : (adN s n).N[ixOf n s.N]? = some n := by
 unfold adN
 by_cases h : n ∈ s.N
 ·rw [if_pos h]; exact yo8 h
 ·rw [if_neg h, yi5 h]; simp
theorem y1wk (s : BS) (t : Tx) : (adT s t).T[ixOf t s.T]? = some t := by
 unfold adT
 by_cases h : t ∈ s.T
 ·rw [if_pos h]; exact yo8 h
 ·rw [if_neg h, yi5 h]; simp
section
variable {u : Un} {x : Ins} {s sF : BS} (g : Good x) (hy : ∀ y ∈ s.Y, y < s.W.length) (he : ExtB (putM s x) sF) (hu : Has u sF) (hN : sF.N.length < 4294967296) (hT : sF.T.length < 4294967296)
include hy he hu
theorem ydw {i : Nat} {w : Wd} {tl : List Wd} {ys : List Int} (eW : (putM s x).W = s.W ++ tl) (eY : (putM s x).Y = s.Y ++ ys) (hi : tl[i]? = some w) (hw : ((s.W.length + i : Nat) : Int) ∉ ys) : (lst u.W)[s.W.length + i]? = some w := by
 obtain ⟨a, ea⟩ := he.W
 obtain ⟨d, ed, hd⟩ := he.Y
 have hil := (zb.1 hi).1
 rw [hu.get _, ea, eW, z1m, z2a (by omega), Nat.add_sub_cancel_left, zx hil]
 ·exact hi
 ·rw [ed, eY, zt, zt, not_or, not_or]
  refine ⟨⟨fun h => ?_, hw⟩, fun h => ?_⟩
  ·have := hy _ h; omega
  ·have := hd _ h
   rw [eW, zg] at this
   omega
theorem ysu {tl : List Wd} (eW : (putM s x).W = s.W ++ tl) : s.W.length + tl.length ≤ (lst u.W).length := by
 have := he.len
 rw [eW, zg] at this
 rw [hu.len]; exact this
include g hN in
theorem y2io (h : k1 x.op = true) : rdM u s.W.length = ({ rd0 (y2r x) with n := x.n }, 2) := by
 have eP : putM s x = numW (adW s (y2r x)) x.n := by rw [putM, y44, if_pos h]
 have eaW : ∀ s n, (adN s n).W = s.W := fun s n => by unfold adN; split <;> rfl
 have eaY : ∀ s n, (adN s n).Y = s.Y := fun s n => by unfold adN; split <;> rfl
 have eW : (putM s x).W = s.W ++ [⟨y2r x⟩, ⟨wU (ixOf x.n s.N)⟩] := by rw [eP]; simp [numW, adW, eaW]
 have eY : (putM s x).Y = s.Y ++ [] := by rw [eP]; simp [numW, adW, eaY]
 have w0 := ydw hy he hu eW eY (i := 0) rfl (by simp)
 rw [z1p] at w0
 have w1 := ydw hy he hu eW eY (i := 1) rfl (by simp)
 have hl := ysu hy he hu eW
 simp only [List.length_cons, List.length_nil] at hl
 have ex : y1x x.op = 1 := by unfold y1x; rw [h]; rfl
 have hop : x.op = 1 ∨ x.op = 5 ∨ x.op = 6 ∨ x.op = 16 ∨ x.op = 17 ∨ x.op = 18 ∨ x.op = 19 ∨ x.op = 20 := by simpa [k1, or_assoc] using h
 have nN : (lst u.N)[(wU (ixOf x.n s.N)).toNat]? = some x.n := by
  obtain ⟨b, eb⟩ := he.N
  have e1 : (putM s x).N = (adN s x.n).N := by
   rw [eP]
   unfold numW adN
   by_cases hm : x.n ∈ s.N
   ·have hm' : x.n ∈ (adW s (y2r x)).N := hm
    rw [if_pos hm, if_pos hm']; rfl
   ·have hm' : x.n ∉ (adW s (y2r x)).N := hm
    rw [if_neg hm, if_neg hm']; rfl
  have e2 := y22l s x.n
  have hlt := (zb.1 e2).1
  have : (adN s x.n).N.length ≤ sF.N.length := by rw [eb, e1, zg]; omega
  rw [yqa (by omega) (by omega), hu.N, eb, e1, show ((ixOf x.n s.N : Nat) : Int).toNat = ixOf x.n s.N by omega, zx hlt]
  exact e2
 have er : (rd0 (y2r x)).op = x.op := by rw [yxa (by have := g.o0; omega) g.o1 g.d g.a g.b]
 have em : ydd u (rd0 (y2r x)) [⟨wU (ixOf x.n s.N)⟩] = some { rd0 (y2r x) with n := x.n } := by
  rw [ydd]
  rw [if_neg (by rw [er]; rcases hop with o | o | o | o | o | o | o | o <;> rw [o] <;> decide), if_neg (by omega), if_neg (by omega), if_neg (by omega), nN]
  rfl
 rw [y1m6 g w0 (by rw [ex]; omega), ex, cut1 w1, em]
 simp only
 have hc : calls ({ rd0 (y2r x) with n := x.n } : Ins).op = false := by
  show calls (rd0 (y2r x)).op = false
  rw [er]
  rcases hop with o | o | o | o | o | o | o | o <;> rw [o] <;> rfl
 rw [rdN, hc]
 rfl
include g hT in
theorem y2lz (h : k2 x.op = true) : rdM u s.W.length = ({ rd0 (y2r x) with s := x.s }, 2) := by
 have hop : x.op = 3 ∨ x.op = 12 ∨ x.op = 21 ∨ x.op = 22 := by simpa [k2, or_assoc] using h
 have h1 : ¬ k1 x.op = true := by rcases hop with o | o | o | o <;> rw [o] <;> decide
 have eP : putM s x = yea (adW s (y2r x)) x.s := by rw [putM, y44, if_neg h1, if_pos h]
 have eaW : ∀ s n, (adT s n).W = s.W := fun s n => by unfold adT; split <;> rfl
 have eaY : ∀ s n, (adT s n).Y = s.Y := fun s n => by unfold adT; split <;> rfl
 have eW : (putM s x).W = s.W ++ [⟨y2r x⟩, ⟨wU (ixOf ⟨x.s⟩ s.T)⟩] := by rw [eP]; simp [yea, adW, eaW]
 have eY : (putM s x).Y = s.Y ++ [] := by rw [eP]; simp [yea, adW, eaY]
 have w0 := ydw hy he hu eW eY (i := 0) rfl (by simp)
 rw [z1p] at w0
 have w1 := ydw hy he hu eW eY (i := 1) rfl (by simp)
 have hl := ysu hy he hu eW
 simp only [List.length_cons, List.length_nil] at hl
 have ex : y1x x.op = 1 := by unfold y1x; rw [h]; simp
 have nN : (lst u.T)[(wU (ixOf ⟨x.s⟩ s.T)).toNat]? = some ⟨x.s⟩ := by
  obtain ⟨b, eb⟩ := he.T
  have e1 : (putM s x).T = (adT s ⟨x.s⟩).T := by
   rw [eP]
   unfold yea adT
   by_cases hm : (⟨x.s⟩ : Tx) ∈ s.T
   ·have hm' : (⟨x.s⟩ : Tx) ∈ (adW s (y2r x)).T := hm
    rw [if_pos hm, if_pos hm']; rfl
   ·have hm' : (⟨x.s⟩ : Tx) ∉ (adW s (y2r x)).T := hm
    rw [if_neg hm, if_neg hm']; rfl
  have e2 := y1wk s ⟨x.s⟩
  have hlt := (zb.1 e2).1
  have : (adT s ⟨x.s⟩).T.length ≤ sF.T.length := by rw [eb, e1, zg]; omega
  rw [yqa (by omega) (by omega), hu.T, eb, e1, show ((ixOf (⟨x.s⟩ : Tx) s.T : Nat) : Int).toNat = ixOf ⟨x.s⟩ s.T by omega, zx hlt]
  exact e2
 have er : (rd0 (y2r x)).op = x.op := by rw [yxa (by have := g.o0; omega) g.o1 g.d g.a g.b]
 have em : ydd u (rd0 (y2r x)) [⟨wU (ixOf ⟨x.s⟩ s.T)⟩] = some { rd0 (y2r x) with s := x.s } := by
  rw [ydd]
  rw [if_pos (by rw [er]; rcases hop with o | o | o | o <;> rw [o] <;> decide), nN]
  rfl
 rw [y1m6 g w0 (by rw [ex]; omega), ex, cut1 w1, em]
 simp only
 have hc : calls ({ rd0 (y2r x) with s := x.s } : Ins).op = false := by
  show calls (rd0 (y2r x)).op = false
  rw [er]
  rcases hop with o | o | o | o <;> rw [o] <;> rfl
 rw [rdN, hc]
 rfl
include g in
theorem y2lq (h : y1x x.op = 0) : rdM u s.W.length = (rd0 (y2r x), 1) := by
 have h1 : ¬ k1 x.op = true := fun e => by unfold y1x at h; rw [e] at h; simp at h
 have h2 : ¬ k2 x.op = true := fun e => by unfold y1x at h; rw [e] at h; simp at h
 have hc : calls x.op = false := by
  cases hc : calls x.op with
  | false => rfl
  | true => unfold y1x at h; rw [hc] at h; split at h <;> simp at h
 have hr : ¬ x.op = 14 ∧ ¬ x.op = 27 ∧ ¬ (x.op = 28 ∨ x.op = 29) := by
  refine ⟨fun e => ?_, fun e => ?_, fun e => ?_⟩
  ·rw [e] at h; exact absurd h (by decide)
  ·rw [e] at h; exact absurd h (by decide)
  ·rcases e with e | e <;> rw [e] at h <;> exact absurd h (by decide)
 have hcc : ¬ x.op = 25 ∧ ¬ (x.op = 23 ∨ x.op = 24 ∨ x.op = 26) := by
  simp only [calls, Bool.and_eq_false_iff, decide_eq_false_iff_not] at hc
  omega
 have eP : putM s x = adW s (y2r x) := by rw [putM, y44, if_neg h1, if_neg h2, if_neg hr.1, if_neg hr.2.1, if_neg hr.2.2, if_neg hcc.1, if_neg hcc.2]
 have eW : (putM s x).W = s.W ++ [⟨y2r x⟩] := by rw [eP]; rfl
 have eY : (putM s x).Y = s.Y ++ [] := by rw [eP]; simp [adW]
 have w0 := ydw hy he hu eW eY (i := 0) rfl (by simp)
 rw [z1p] at w0
 have hl := ysu hy he hu eW
 simp only [List.length_cons, List.length_nil] at hl
 have er : (rd0 (y2r x)).op = x.op := by rw [yxa (by have := g.o0; omega) g.o1 g.d g.a g.b]
 rw [y1m6 g w0 (by rw [h]; omega), h, cut0, ydd]
 simp only
 rw [rdN, er, hc]
 rfl
end
end Go.Vm
namespace Go.Vm
open Cel
def ytx (u : Un) : List (Ins × Int) → Int → Prop
 | [], p => p = (lst u.W).length
 | (x, n) :: r, p => rdM u p = (x, n) ∧ 1 ≤ n ∧ p < (lst u.W).length ∧ ytx u r (p + n)
def posW : List (Ins × Int) → Int → List Int
 | [], p => [p]
 | (_, n) :: r, p => p :: posW r (p + n)
theorem y2li (u : Un) (i : Int) (H : Heap) : yv (fz H y1m) [.agg (enc u), .int .i64 i] = some ⟨[.agg (enc u), .int .i64 i], scal u && (true && true), []⟩ := by
 rw [ym, y64, fz_i]; rfl
theorem y2bl {H : Heap} {x : Ins} {o : AO} (h : H[2]? = some o) : yl 0 (some 2) 9 1 zCe [(0, .agg (enc x))] H = some (.ls 2 (o.gen + 1) 9 0 1, H.set 2 ⟨o.gen + 1, .arr false false 9 [enc x]⟩) := by
 have ef : y1i 9 [(0, AV.agg (enc x))] [zCe] = some [enc x] := by
  have h9 : (cellsOf (.agg (enc x))).length = 9 ∧ 0 < [zCe].length ∧ (cellsOf (.agg (enc x))).all y19 = true := ⟨yhg x, by decide, y135 x⟩
  simp only [y1i, if_pos h9]
  rfl
 have hz : zCe.length = 9 ∧ zCe.all y19 = true := ⟨rfl, rfl⟩
 unfold yl
 rw [if_pos hz]
 simp only [List.replicate_one, ef, y2k, place, zd, h, List.length_singleton]
abbrev hW (u : Un) (x1 x2 : AO) (g : Nat) (Ls : List Ins) (x4 : AO) (g2 : Nat) (Ps : List Int) : Heap := [BU u, x1, x2, y2l g D0 Ls, x4, y2l g2 D0 Ps, D0, D0]
section
variable {u : Un} (hw : WOk (lst u.W)) (hl : (lst u.W).length ≤ 40000000000000)
include hw hl
theorem yrk : ∀ (r : List (Ins × Int)) (p : Int) (x1 x2 x4 : AO) (g g2 : Nat) (Ls : List Ins) (Ps : List Int), 0 ≤ p → ytx u r p → Ls.length + r.length ≤ 1000000 → Ps.length = Ls.length →
  ∃ x1' x2' x4' g' g2', yia (.lp 0 1 0 0) (y1c Ins 3 g Ls) (y1c Int 5 g2 Ps) (.int .i64 p) (hW u x1 x2 g Ls x4 g2 Ps) =
   y20l (.lp 0 1 0 0) (y1c Ins 3 g' (Ls ++ r.map (·.1))) (y1c Int 5 g2' (Ps ++ (posW r p).dropLast)) (.int .i64 (lst u.W).length) (hW u x1' x2' g' (Ls ++ r.map (·.1)) x4' g2' (Ps ++ (posW r p).dropLast))
 | [], p, x1, x2, x4, g, g2, Ls, Ps, h0, hwk, hs, hP => by
  have hp : p = (lst u.W).length := hwk
  have h : ¬ p < ((lst u.W).length : Int) := by omega
  have lW : ∀ T : Heap, evLd false 1 (.lp 0 1 0 0) (BU u :: T) = some (slA u.W) := fun T => rfl
  refine ⟨x1, x2, x4, g, g2, ?_⟩
  simp only [List.map_nil, List.append_nil, posW, List.dropLast_singleton]
  rw [ys9]
  simp only [y228, yk, zd, y9, lW, y12, yg, h, decide_false, y1h]
  rw [hp]
 | (x, n) :: r, p, x1, x2, x4, g, g2, Ls, Ps, h0, hwk, hs, hP => by
  obtain ⟨hr, h1, hp, hwk⟩ := hwk
  simp only [List.length_cons] at hs
  obtain ⟨rA, cA, dA⟩ := s_At hw hl p
  rw [hr] at dA
  have cA' : ∀ H, yc E (yd E) 0 none true 233 [.agg (enc u), .int .i64 p] H = some (.tup [.agg (enc x), .int .i64 n], H) := fun H => y18 rfl (y2li u p H) rfl cA dA
  have lW : ∀ T : Heap, evLd false 1 (.lp 0 1 0 0) (BU u :: T) = some (slA u.W) := fun T => rfl
  have lU : ∀ T : Heap, evLd true 8 (.lp 0 1 0 0) (BU u :: T) = some (.agg (enc u)) := fun T => rfl
  have n1 : newC 0 (some 1) zCe (hW u x1 x2 g Ls x4 g2 Ps) = some (.lp 1 (x1.gen + 1) 0 0, hW u (AX (x1.gen + 1) zIns) x2 g Ls x4 g2 Ps) := rfl
  have s1 : evSt 9 (.lp 1 (x1.gen + 1) 0 0) (.agg (enc x)) (hW u (AX (x1.gen + 1) zIns) x2 g Ls x4 g2 Ps) = some (.tup [], hW u (AX (x1.gen + 1) x) x2 g Ls x4 g2 Ps) := st_g (α := Ins) (H := hW u (AX (x1.gen + 1) zIns) x2 g Ls x4 g2 Ps) (id := 1) (g := x1.gen + 1) (c := zIns) (d := x) rfl
  have hn : ¬ n < 1 := by omega
  have l1 : evLd true 9 (.lp 1 (x1.gen + 1) 0 0) (hW u (AX (x1.gen + 1) x) x2 g Ls x4 g2 Ps) = some (.agg (enc x)) := ysm (α := Ins) (H := hW u (AX (x1.gen + 1) x) x2 g Ls x4 g2 Ps) (id := 1) (g := x1.gen + 1) (c := x) rfl
  have b2 : yl 0 (some 2) 9 1 zCe [(0, .agg (enc x))] (hW u (AX (x1.gen + 1) x) x2 g Ls x4 g2 Ps) = some (.ls 2 (x2.gen + 1) 9 0 1, hW u (AX (x1.gen + 1) x) ⟨x2.gen + 1, .arr false false 9 [enc x]⟩ g Ls x4 g2 Ps) := y2bl rfl
  have e48 : (2:Nat) ^ 48 = 281474976710656 := by decide
  obtain ⟨g', e3⟩ := ygt (α := Ins) (fb := 0) (j := 3) (b := 96) (L := Ls) (M := [x]) (o := D0) (g := g) (H := hW u (AX (x1.gen + 1) x) ⟨x2.gen + 1, .arr false false 9 [enc x]⟩ g Ls x4 g2 Ps) (y := .ls 2 (x2.gen + 1) 9 0 1) (y54 rfl) rfl (by rw [e48]; simp only [List.length_singleton]; omega)
  have b4 : yl 0 (some 4) 1 1 [.int .i64 0] [(0, .int .i64 p)] (hW u (AX (x1.gen + 1) x) ⟨x2.gen + 1, .arr false false 9 [enc x]⟩ g' (Ls ++ [x]) x4 g2 Ps) = some (.ls 4 (x4.gen + 1) 1 0 1, hW u (AX (x1.gen + 1) x) ⟨x2.gen + 1, .arr false false 9 [enc x]⟩ g' (Ls ++ [x]) ⟨x4.gen + 1, .arr false false 1 [[.int .i64 p]]⟩ g2 Ps) := bs_c (fb := 0) (j := 4) rfl rfl rfl rfl
  obtain ⟨g5, e5⟩ := yoi (H := hW u (AX (x1.gen + 1) x) ⟨x2.gen + 1, .arr false false 9 [enc x]⟩ g' (Ls ++ [x]) ⟨x4.gen + 1, .arr false false 1 [[.int .i64 p]]⟩ g2 Ps) (fb := 0) (j := 5) (g := g2) (o := D0) (y := .ls 4 (x4.gen + 1) 1 0 1) (L := Ps) (n := p) (y54 rfl) rfl (by omega)
  obtain ⟨y1, y2, y4, k, k2, e6⟩ := yrk r (p + n) (AX (x1.gen + 1) x) ⟨x2.gen + 1, .arr false false 9 [enc x]⟩ ⟨x4.gen + 1, .arr false false 1 [[.int .i64 p]]⟩ g' g5 (Ls ++ [x]) (Ps ++ [p]) (by omega) hwk (by simp only [zg, List.length_singleton]; omega) (by simp [hP])
  have hpn : IntKind.wrap .i64 (p + n) = p + n := by
   have hle : ∀ (r : List (Ins × Int)) (q : Int), ytx u r q → q ≤ (lst u.W).length := by
    intro r q h
    cases r with
    | nil => have : q = (lst u.W).length := h; omega
    | cons a r => obtain ⟨_, _, h3, _⟩ := h; omega
   have := hle r (p + n) hwk
   rw [y1a] <;> omega
  refine ⟨y1, y2, y4, k, k2, ?_⟩
  have ed : (posW ((x, n) :: r) p).dropLast = p :: (posW r (p + n)).dropLast := by
   rw [posW]
   cases hq : posW r (p + n) with
   | nil => cases r <;> simp [posW] at hq
   | cons a l => rfl
  rw [ed, z10, show Ls ++ x :: r.map (·.1) = (Ls ++ [x]) ++ r.map (·.1) by simp, show Ps ++ p :: (posW r (p + n)).dropLast = (Ps ++ [p]) ++ (posW r (p + n)).dropLast by simp, ← e6, ys9]
  simp only [zd, show es Ins = 9 from rfl] at e3 e5
  have e3' : y1v 0 (some 3) 9 96 (y1c Ins 3 g Ls) (.ls 2 (x2.gen + 1) 9 0 1) (hW u (AX (x1.gen + 1) x) ⟨x2.gen + 1, .arr false false 9 [enc x]⟩ g Ls x4 g2 Ps) = some (y1c Ins 3 g' (Ls ++ [x]), hW u (AX (x1.gen + 1) x) ⟨x2.gen + 1, .arr false false 9 [enc x]⟩ g' (Ls ++ [x]) x4 g2 Ps) := e3
  have e5' : y1v 0 (some 5) 1 8 (y1c Int 5 g2 Ps) (.ls 4 (x4.gen + 1) 1 0 1) (hW u (AX (x1.gen + 1) x) ⟨x2.gen + 1, .arr false false 9 [enc x]⟩ g' (Ls ++ [x]) ⟨x4.gen + 1, .arr false false 1 [[.int .i64 p]]⟩ g2 Ps) = some (y1c Int 5 g5 (Ps ++ [p]), hW u (AX (x1.gen + 1) x) ⟨x2.gen + 1, .arr false false 9 [enc x]⟩ g' (Ls ++ [x]) ⟨x4.gen + 1, .arr false false 1 [[.int .i64 p]]⟩ g5 (Ps ++ [p])) := e5
  simp only [y228, yk, zd, y9, lW, y12, yg, hp, decide_true, y1b, y2ai, lU, cA', ye, y1y, List.getElem?_cons_zero, List.getElem?_cons_succ, n1, s1, y29r, hn, decide_false, y1h, y2be, l1, b2, e3', b4, e5', yz, hpn]
theorem y2oh {r : List (Ins × Int)} (hr : r ≠ []) (hwk : ytx u r 0) (hs : r.length ≤ 100000) : ∃ q, (yd E).p 232 [.agg (enc u)] = some q ∧ y72 q (.tup [slA (nz (r.map (·.1))), slA (some (posW r 0)), .bool true]) := by
 rw [y2sy]
 obtain ⟨x1, x2, x4, g, g2, e1⟩ := yrk hw hl r 0 D0 D0 D0 0 0 [] [] (Int.le_refl 0) hwk (by simp; omega) rfl
 rw [z16, z16] at e1
 have n0 : newC 0 (some 0) (cellsOf (.agg (enc u))) [D0, D0, D0, D0, D0, D0, D0, D0] = some (.lp 0 1 0 0, hW u D0 D0 0 [] D0 0 []) := by
  have : (cellsOf (.agg (enc u))).all y19 = true := y5t u
  unfold newC
  rw [if_pos this]
  rfl
 -- the last place
 have hlast : ∀ (r : List (Ins × Int)) (q : Int), ytx u r q → posW r q = (posW r q).dropLast ++ [((lst u.W).length : Int)] := by
  intro r
  induction r with
  | nil => intro q h; have : q = (lst u.W).length := h; rw [this]; rfl
  | cons a r ih =>
   obtain ⟨x, n⟩ := a
   intro q h
   obtain ⟨_, _, _, h4⟩ := h
   have := ih (q + n) h4
   rw [posW]
   cases hq : posW r (q + n) with
   | nil => cases r <;> simp [posW] at hq
   | cons b l =>
    rw [hq] at this
    rw [List.dropLast_cons_of_ne_nil (by simp), z20, ← this]
 have hl2 := hlast r 0 hwk
 generalize hD : (posW r 0).dropLast = D at *
 have hDn : D ≠ [] := by
  intro e
  obtain ⟨a, r', rfl⟩ : ∃ a r', r = a :: r' := by cases r with | nil => exact (hr rfl).elim | cons a r' => exact ⟨a, r', rfl⟩
  obtain ⟨x, n⟩ := a
  rw [e, posW] at hl2
  have h2 := congrArg List.length hl2
  have h3 : 1 ≤ (posW r' (0 + n)).length := by cases r' <;> simp [posW]
  simp only [List.length_cons, zg, List.length_nil] at h2
  omega
 have hDl : D.length ≤ 1000000 := by
  have h4 : ∀ (r : List (Ins × Int)) (q : Int), (posW r q).length = r.length + 1 := by
   intro r
   induction r with
   | nil => intro q; rfl
   | cons a r ih => intro q; rw [posW, zl, ih, zl]
  have := h4 r 0
  rw [hl2, zg, zj] at this
  omega
 have b6 : yl 0 (some 6) 1 1 [.int .i64 0] [(0, .int .i64 (lst u.W).length)] (hW u x1 x2 g (r.map (·.1)) x4 g2 D) = some (.ls 6 1 1 0 1, [BU u, x1, x2, y2l g D0 (r.map (·.1)), x4, y2l g2 D0 D, AI 1 [((lst u.W).length : Int)], D0]) := bs_c (H := hW u x1 x2 g (r.map (·.1)) x4 g2 D) (fb := 0) (j := 6) (o := D0) (z := .int .i64 0) (v := .int .i64 (lst u.W).length) rfl rfl rfl rfl
 have a7 := ysw (α := Int) (fb := 0) (sl := some 7) (b := 8) (y := .ls 6 1 1 0 1) (L := D) (M := [((lst u.W).length : Int)]) (T := []) (id := 5) (g := g2) (H := [BU u, x1, x2, y2l g D0 (r.map (·.1)), x4, y2l g2 D0 D, AI 1 [((lst u.W).length : Int)], D0]) (y54 rfl) (by rw [z15]; show some (y2l g2 D0 D) = _; rw [ygh hDn]) (ypb (by simp only [List.length_singleton]; omega))
 rw [← hl2] at a7
 have sD : y1c Int 5 g2 D = .ls 5 g2 1 0 D.length := y0y hDn
 have lW : ∀ T : Heap, evLd false 1 (.lp 0 1 0 0) (BU u :: T) = some (slA u.W) := fun T => rfl
 have hmne : r.map (·.1) ≠ [] := fun e => hr (z3j.1 e)
 have sL : y1c Ins 3 g (r.map (·.1)) = ownV 3 g (nz (r.map (·.1))) := by cases r.map (·.1) <;> rfl
 -- what is handed out
 generalize hH : ([BU u, x1, x2, y2l g D0 (r.map (·.1)), x4, y2l g2 D0 D, AI 1 [((lst u.W).length : Int)], D0] : Heap).set 5 ⟨g2 + 1, .arr false false (es Int) ((posW r 0).map enc)⟩ = H at a7
 have hH3 : H[3]? = some (y2l g D0 (r.map (·.1))) := by rw [← hH]; rfl
 have hH5 : H[5]? = some ⟨g2 + 1, .arr false false 1 ((posW r 0).map enc)⟩ := by rw [← hH]; rfl
 have hH0 : evLd false 1 (.lp 0 1 0 0) H = some (slA u.W) := by rw [← hH]; rfl
 obtain ⟨b1, e5⟩ := y83 (α := Ins) (H := H) (id := 3) (g := g) (L := r.map (·.1)) (fun hne => by rw [hH3, ygh hne]) [] 10
 have hP : nz (posW r 0) = some (posW r 0) := by cases r <;> rfl
 obtain ⟨b2, e6⟩ := y83 (α := Int) (H := H) (id := 5) (g := g2 + 1) (L := posW r 0) (fun _ => hH5) ([] ++ exOs (nz (r.map (·.1)))) 10
 have e7 : ∀ os, expo H 11 (.bool true) os = some ⟨.bool true, os, true, [], []⟩ := fun os => rfl
 have l9 : ∀ os, y30 (expo H 11) [] os = some ⟨[], os, true, [], []⟩ := fun _ => rfl
 have l3 := y22 e5 (y22 e6 (y22 (e7 _) (l9 _)))
 have ex : yo H (.tup [ownV 3 g (nz (r.map (·.1))), ownV 5 (g2 + 1) (nz (posW r 0)), .bool true]) = some ⟨.tup [exV 0 (nz (r.map (·.1))), exV (exOs (nz (r.map (·.1)))).length (nz (posW r 0)), .bool true], exOs (nz (r.map (·.1))) ++ exOs (nz (posW r 0)), b1 && (b2 && (true && true)), [], []⟩ := by
  rw [ycr, l3]
  simp only
  rw [if_pos]
  ·simp
  ·rw [hP]
   cases r.map (·.1) <;> rfl
 refine ⟨⟨.tup [exV 0 (nz (r.map (·.1))), exV (exOs (nz (r.map (·.1)))).length (nz (posW r 0)), .bool true], exOs (nz (r.map (·.1))) ++ exOs (nz (posW r 0)), b1 && (b2 && (true && true)), [], []⟩, ?_, ?_⟩
 ·rw [← ex]
  have v38 : AV.ls 5 (g2 + 1) 1 0 (posW r 0).length = ownV 5 (g2 + 1) (nz (posW r 0)) := by rw [hP]; rfl
  show y11m _ [D0, D0, D0, D0, D0, D0, D0, D0] = _
  have e0 : yia (.lp 0 1 0 0) .nils .nils (.int .i64 0) (hW u D0 D0 0 [] D0 0 []) = _ := e1
  rw [y11m, n0, ye, y1lm, y1h7]
  show yia (.lp 0 1 0 0) .nils .nils (.int .i64 0) (hW u D0 D0 0 [] D0 0 []) = _
  rw [e0, y20l, b6, ye, sD]
  simp only [ys7] at a7
  rw [a7, ye]
  simp only [yk, zd, y9, hH0, y12, yy, decide_true]
  have hi : ids1 (slA u.W) = [] := by cases u.W <;> rfl
  rw [hi, y1gj (by rfl), sL, v38]
 ·have h1 := yd8 (nz (r.map (·.1))) [] (exOs (nz (posW r 0))) 9
  have h2 := yd8 (nz (posW r 0)) (exOs (nz (r.map (·.1)))) [] 9
  simp only [List.nil_append, List.append_nil, List.length_nil] at h1 h2
  have hb : ∀ (Hh : Heap) (k : Nat), fz Hh (k + 1) (.bool true) = some ⟨.bool true, true, []⟩ := fun _ _ => rfl
  refine ⟨_, (yoe _ 11 _).trans (by
   simp only [ym, h1, h2, hb _ 10, y1k]
   rfl), ?_⟩
  rw [hP]
end
end Go.Vm
namespace Go.Vm
open Cel
attribute [local simp] yc y38 y1t
theorem y1jk (a b : Option (List Int)) (hn : (lst a).length = (lst b).length) (hl : (lst a).length ≤ 9223372036854775807) (h : Heap) : ∀ (d i : Nat), i + d = (lst a).length →
  yma (slA a) (slA b) (.int .i64 i) h = some ⟨.bool (decide ((lst a).drop i = (lst b).drop i)), [], true, [], []⟩ := by
 intro d
 induction d with
 | zero =>
  intro i hi
  have e1 : (lst a).drop i = [] := z1b (by omega)
  have e2 : (lst b).drop i = [] := z1b (by omega)
  rw [yqj, e1, e2]
  have : ¬ ((i : Int) < ((lst a).length : Int)) := by omega
  simp [yts, yu7, yt8, ysy, ysq, ytg, yjt, this]
 | succ d ih =>
  intro i hi
  have h1 : i < (lst a).length := by omega
  have h2 : i < (lst b).length := by omega
  have hc : ((i : Int) < ((lst a).length : Int)) := by omega
  have k1 := y3j (o := a) (i := i) (z9 h1) .i64
  have k2 := y3j (o := b) (i := i) (z9 h2) .i64
  rw [yqj, y1u4 h1 h2]
  by_cases he : (lst a)[i] = (lst b)[i]
  ·have := ih (i + 1) (by omega)
   push_cast at this
   simp [yts, yu7, yt8, ysy, ysq, ytg, yjt, hc, k1, k2, he, y2x h1 hl, this]
  ·simp [yts, yu7, yt8, ysy, ysq, ytg, yjt, hc, k1, k2, he]
@[simp] theorem y2m0 (a b : Option (List Int)) (hl : (lst a).length ≤ 9223372036854775807) : (yd E).p 11 [slA a, slA b] = some ⟨.bool (decide (lst a = lst b)), [], true, [], []⟩ := by
 rw [y2sl]
 by_cases hn : (lst a).length = (lst b).length
 ·have := y1jk a b hn hl [] (lst a).length 0 (by omega)
  simp only [Int.ofNat_zero, List.drop_zero] at this
  have hn' : ((lst a).length : Int) = ((lst b).length : Int) := by omega
  simp [yts, yu7, yt8, ysy, ysq, ytg, yjt, hn', show yma (slA a) (slA b) (.int .i64 0) [] = _ from this]
 ·have hn' : ¬ ((lst a).length : Int) = ((lst b).length : Int) := by omega
  have : ¬ lst a = lst b := fun h => hn (by rw [h])
  simp [yts, yu7, yt8, ysy, ysq, ytg, yjt, hn', this]
end Go.Vm
namespace Go.Vm
open Cel
attribute [local simp] yc y38 y1t
def y5g (x y : Ins) : Bool := decide (x.op = y.op) && decide (x.d = y.d) && decide (x.a = y.a) && decide (x.b = y.b) && decide (x.c = y.c) && decide (x.n = y.n) && decide (x.t = y.t) && decide (x.s = y.s) && decide (lst x.args = lst y.args)
set_option maxHeartbeats 1000000 in
@[simp] theorem y1c2 (x y : Ins) (hl : (lst x.args).length ≤ 9223372036854775807) : (yd E).p 28 [.agg (enc x), .agg (enc y)] = some ⟨.bool (y5g x y), [], true, [], []⟩ := by
 rw [y2tz]
 have hi := y2m0 x.args y.args hl
 by_cases h1 : x.op = y.op
 ·by_cases h2 : x.d = y.d
  ·by_cases h3 : x.a = y.a
   ·by_cases h4 : x.b = y.b
    ·by_cases h5 : x.c = y.c
     ·by_cases h6 : x.n = y.n
      ·by_cases h7 : x.t = y.t
       ·by_cases h8 : x.s = y.s
        ·simp [yi3, y5g, h1, h2, h3, h4, h5, h6, h7, h8, hi]
        ·simp [yi3, y5g, h1, h2, h3, h4, h5, h6, h7, h8]
       ·simp [yi3, y5g, h1, h2, h3, h4, h5, h6, h7]
      ·simp [yi3, y5g, h1, h2, h3, h4, h5, h6]
     ·simp [yi3, y5g, h1, h2, h3, h4, h5]
    ·simp [yi3, y5g, h1, h2, h3, h4]
   ·simp [yi3, y5g, h1, h2, h3]
  ·simp [yi3, y5g, h1, h2]
 ·simp [yi3, y5g, h1]
end Go.Vm
namespace Go.Vm
open Cel
def ecI (n : Int) : Ins := ⟨1, 0, 0, 0, 0, n, 0, [], none⟩
def etI (t : Tx) : Ins := ⟨3, 1, 0, 0, 0, 0, 0, t.s, none⟩
def erI : Ins := ⟨30, 0, -1, 0, 0, 0, 0, [], none⟩
def fNum (C : List Ins) : Fn := ⟨some [2, 3], none, 0, some C, none⟩
def yo7 (x : Ins) : Prop := (∃ n, x = ecI n) ∨ (∃ t, x = etI t) ∨ x = erI
theorem y1hk {x : Ins} (h : yo7 x) (C : List Ins) : y4l (fNum C) x = true ∧ ∀ i, y6o C i x = true := by
 rcases h with ⟨n, rfl⟩ | ⟨t, rfl⟩ | rfl
 ·exact ⟨rfl, fun i => rfl⟩
 ·exact ⟨rfl, fun i => rfl⟩
 ·exact ⟨rfl, fun i => rfl⟩
theorem ym6 {f : Fn} {C : List Ins} : ∀ (l : List Ins) (i : Nat), (∀ x ∈ l, y4l f x = true ∧ ∀ k, y6o C k x = true) → y6u f C i l = true
 | [], _, _ => rfl
 | x :: l, i, h => by
  obtain ⟨h1, h2⟩ := h x z1h
  rw [y6u, h1, h2 i, ym6 l (i + 1) (fun y hy => h y (z18 _ hy))]
  rfl
theorem y2o5 {C : List Ins} (h : ∀ x ∈ C, yo7 x) (hl : C.length ≤ 20000) (h1 : 1 ≤ C.length) (he : C.getD (C.length - 1) default = erI) : wf (fNum C) = true := by
 have hc := ym6 (f := fNum C) (C := C) C 0 (fun x hx => y1hk (h x hx) C)
 unfold wf
 simp only [fNum, y57, y21x] at hc ⊢
 rw [he, hc]
 have e2 : ends erI.op = true := rfl
 rw [e2]
 simp [hl, h1, ygc]
theorem yd4 {x : Ins} (h : yo7 x) : Good x ∧ lst x.args = [] := by
 rcases h with ⟨n, rfl⟩ | ⟨t, rfl⟩ | rfl
 ·exact ⟨⟨by show (1:Int) ≤ 1; decide, by show (1:Int) ≤ 33; decide, by show y4h 0; unfold y4h; omega, by show y4h (-1); unfold y4h; omega, by show y4h (-1); unfold y4h; omega, fun h => by cases h⟩, rfl⟩
 ·exact ⟨⟨by show (1:Int) ≤ 3; decide, by show (3:Int) ≤ 33; decide, by show y4h 1; unfold y4h; omega, by show y4h (-1); unfold y4h; omega, by show y4h (-1); unfold y4h; omega, fun h => by cases h⟩, rfl⟩
 ·exact ⟨⟨by show (1:Int) ≤ 30; decide, by show (30:Int) ≤ 33; decide, by show y4h (-1); unfold y4h; omega, by show y4h (-1); unfold y4h; omega, by show y4h (-1); unfold y4h; omega, fun h => by cases h⟩, rfl⟩
def nwI (x : Ins) : Int := 1 + y1x x.op
theorem y20b {u : Un} {x : Ins} {s sF : BS} (h : yo7 x) (hy : s.Y = []) (he : ExtB (putM s x) sF) (hu : Has u sF) (hN : sF.N.length < 4294967296) (hT : sF.T.length < 4294967296) :
  rdM u s.W.length = (x, nwI x) ∧ ((putM s x).W.length : Int) = s.W.length + nwI x ∧ (putM s x).Y = [] := by
 have g := (yd4 h).1
 have hy' : ∀ y ∈ s.Y, y < s.W.length := by rw [hy]; exact fun y h => by cases h
 have r0 := yxa (by have := g.o0; omega) g.o1 g.d g.a g.b
 rcases h with ⟨n, rfl⟩ | ⟨t, rfl⟩ | rfl
 ·have e := y2io g hy' he hu hN (h := rfl)
  rw [r0] at e
  have eP : putM s (ecI n) = numW (adW s (y2r (ecI n))) n := rfl
  have ea : ∀ s n, (adN s n).W = s.W ∧ (adN s n).Y = s.Y := fun s n => by unfold adN; split <;> exact ⟨rfl, rfl⟩
  refine ⟨e, ?_, ?_⟩
  ·rw [eP]; simp only [numW, adW, (ea _ _).1, zg, List.length_singleton]; show _ = _ + (1 + 1 : Int); omega
  ·rw [eP]; show (adN _ n).Y = []; rw [(ea _ _).2]; exact hy
 ·have e := y2lz g hy' he hu hT (h := rfl)
  rw [r0] at e
  have eP : putM s (etI t) = yea (adW s (y2r (etI t))) t.s := rfl
  have ea : ∀ s n, (adT s n).W = s.W ∧ (adT s n).Y = s.Y := fun s n => by unfold adT; split <;> exact ⟨rfl, rfl⟩
  refine ⟨e, ?_, ?_⟩
  ·rw [eP]; simp only [yea, adW, (ea _ _).1, zg, List.length_singleton]; show _ = _ + (1 + 1 : Int); omega
  ·rw [eP]; show (adT _ _).Y = []; rw [(ea _ _).2]; exact hy
 ·have e := y2lq g hy' he hu (h := rfl)
  rw [r0] at e
  exact ⟨e, by show ((s.W ++ [_]).length : Int) = _; rw [zg]; rfl, hy⟩
theorem yzt : ∀ (l : List Ins) (s : BS), ExtB s (l.foldl putM s)
 | [], s => .refl s
 | x :: l, s => (y2gj s x).trans (yzt l _)
theorem ypx {u : Un} {sF : BS} (hu : Has u sF) (hN : sF.N.length < 4294967296) (hT : sF.T.length < 4294967296) : ∀ (l : List Ins) (s : BS), (∀ x ∈ l, yo7 x) → s.Y = [] → l.foldl putM s = sF → ytx u (l.map fun x => (x, nwI x)) s.W.length
 | [], s, _, _, e => by
  show (s.W.length : Int) = _
  rw [hu.len, ← e]; rfl
 | x :: l, s, h, hy, e => by
  have hx := h x z1h
  have he : ExtB (putM s x) sF := by rw [← e]; exact yzt l _
  obtain ⟨r1, r2, r3⟩ := y20b hx hy he hu hN hT
  have hl := he.len
  have hn : 1 ≤ nwI x := by have := yhn x.op; unfold nwI; omega
  refine ⟨r1, hn, by rw [hu.len]; omega, ?_⟩
  rw [← r2]
  exact ypx hu hN hT l _ (fun y hy => h y (z18 _ hy)) r3 e
theorem y26m : ∀ (l : List Ins) (s : BS), (∀ x ∈ l, yo7 x) → s.Y = [] → (l.foldl putM s).Y = []
 | [], s, _, h => h
 | x :: l, s, h, hy => by
  refine y26m l _ (fun y hy => h y (z18 _ hy)) ?_
  have ea : ∀ s n, (adN s n).Y = s.Y := fun s n => by unfold adN; split <;> rfl
  have eb : ∀ s n, (adT s n).Y = s.Y := fun s n => by unfold adT; split <;> rfl
  rcases h x z1h with ⟨n, rfl⟩ | ⟨t, rfl⟩ | rfl
  ·show (adN _ n).Y = []; rw [ea]; exact hy
  ·show (adT _ _).Y = []; rw [eb]; exact hy
  ·exact hy
theorem y1a5 {f : Fn} {t : Tb} : ∀ (l : List Ins) (i : Nat) (e : ES), (yk0 f t i l e).s = l.foldl putM e.s
 | [], _, _ => rfl
 | x :: l, i, e => y1a5 l (i + 1) (ye9 f t i x e)
theorem yov : ∀ (l : List Ins) (s : BS), (∀ x ∈ l, lst x.args = []) → (l.foldl putM s).size ≤ s.size + 25 * l.length
 | [], s, _ => by simp
 | x :: l, s, h => by
  have h1 := yov l (putM s x) (fun y hy => h y (z18 _ hy))
  have h2 := ycp s x (fun _ => by rw [h x z1h]; exact z2s _)
  simp only [List.foldl_cons, List.length_cons]
  omega
theorem y1ao {W : List Wd} {n : Int} (h : WOk W) (h0 : 0 ≤ n) (h1 : n < 4294967296) : WOk (W ++ [⟨n⟩]) := fun w hw => by
 rcases zt.1 hw with hw | hw
 ·exact h w hw
 ·rw [zn] at hw; subst hw; exact ⟨h0, h1⟩
theorem ynu (r : Int) : 0 ≤ regU r ∧ regU r < 4294967296 := by
 unfold regU
 split
 ·omega
 ·exact ydr r
theorem y2ce {s : BS} (h : WOk s.W) (x : Ins) : WOk (putM s x).W := by
 have aw : ∀ {s : BS}, WOk s.W → ∀ n, 0 ≤ n → n < 4294967296 → WOk (adW s n).W := fun h n h0 h1 => y1ao h h0 h1
 have aN : ∀ {s : BS}, WOk s.W → ∀ n, WOk (adN s n).W := fun h n => by unfold adN; split <;> exact h
 have aT : ∀ {s : BS}, WOk s.W → ∀ n, WOk (adT s n).W := fun h n => by unfold adT; split <;> exact h
 have aA : ∀ (l : List Int) {s : BS}, WOk s.W → WOk (yhp l s).W := fun l => by
  induction l with
  | nil => exact fun h => h
  | cons r l ih => exact fun h => ih (aw h _ (ynu r).1 (ynu r).2)
 have aM : ∀ {s : BS}, WOk s.W → WOk (yn5 s x).W := fun h => aA _ (aw h _ (ydr _).1 (ydr _).2)
 have h1 : WOk (adW s (y2r x)).W := aw h _ (ydr _).1 (ydr _).2
 have n1 : ∀ {s : BS}, WOk s.W → WOk (numW s x.n).W := fun h => aw (aN h _) _ (ydr _).1 (ydr _).2
 have t1 : ∀ {s : BS}, WOk s.W → WOk (yea s x.s).W := fun h => aw (aT h _) _ (ydr _).1 (ydr _).2
 have y1 : ∀ {s : BS}, WOk s.W → WOk (wayM s x.t).W := fun h => y1ao h (ydr _).1 (ydr _).2
 unfold putM y44
 split
 ·exact n1 h1
 split
 ·exact t1 h1
 split
 ·exact aw h1 _ (ynu _).1 (ynu _).2
 split
 ·exact y1 h1
 split
 ·exact aw (y1 h1) _ (ydr _).1 (ydr _).2
 split
 ·exact aM (t1 h1)
 split
 ·exact aM (n1 h1)
 ·exact h1
theorem yxd : ∀ (l : List Ins) (s : BS), WOk s.W → WOk (l.foldl putM s).W
 | [], _, h => h
 | x :: l, s, h => yxd l _ (y2ce h x)
end Go.Vm
namespace Go.Vm
open Cel
abbrev FBx (v : AV) : AO := ⟨1, .arr true false 5 [[.ls 0 1 1 0 2, .nils, .int .i64 0, v, .nils]]⟩
structure NR (H : Heap) (C : List Ins) (v : AV) : Prop where
 len : H.length = 10
 r0 : H[0]? = some (AI 1 [2, 3])
 f1 : H[1]? = some (FBx v)
 c : (C = [] ∧ v = .nils) ∨ ∃ j g, (j = 3 ∨ j = 5 ∨ j = 7) ∧ v = .ls j g 9 0 C.length ∧ H[j]? = some ⟨g, .arr false false 9 (C.map enc)⟩ ∧ C ≠ []
theorem y29t {H : Heap} {x : Ins} {k : Nat} {o : AO} (h : H[k]? = some o) : yl 0 (some k) 9 1 zCe [(0, .agg (enc x))] H = some (.ls k (o.gen + 1) 9 0 1, H.set k ⟨o.gen + 1, .arr false false 9 [enc x]⟩) := by
 have ef : y1i 9 [(0, AV.agg (enc x))] [zCe] = some [enc x] := by
  have h9 : (cellsOf (.agg (enc x))).length = 9 ∧ 0 < [zCe].length ∧ (cellsOf (.agg (enc x))).all y19 = true := ⟨yhg x, by decide, y135 x⟩
  simp only [y1i, if_pos h9]
  rfl
 have hz : zCe.length = 9 ∧ zCe.all y19 = true := ⟨rfl, rfl⟩
 unfold yl
 rw [if_pos hz]
 simp only [List.replicate_one, ef, y2k, place, zd, h, List.length_singleton]
theorem NR.push {H : Heap} {C : List Ins} {v : AV} (R : NR H C v) (x : Ins) {t j : Nat} (ht : t = 2 ∨ t = 4 ∨ t = 6) (hj : j = 3 ∨ j = 5 ∨ j = 7) (hC : C.length ≤ 1000000) :
  ∃ g y v' H', evLd false 1 (.lp 1 1 0 3) H = some v ∧ yl 0 (some t) 9 1 zCe [(0, .agg (enc x))] H = some (.ls t g 9 0 1, y) ∧ ∃ z, y1v 0 (some j) 9 96 v (.ls t g 9 0 1) y = some (v', z) ∧ evSt 1 (.lp 1 1 0 3) v' z = some (.tup [], H') ∧ NR H' (C ++ [x]) v' := by
 have e48 : (2:Nat) ^ 48 = 281474976710656 := by decide
 have hlen := R.len
 have hf := R.f1
 obtain ⟨o, ho⟩ : ∃ o, H[t]? = some o := ⟨_, z9 (by omega)⟩
 have b := y29t (x := x) ho
 have l1 : evLd false 1 (.lp 1 1 0 3) H = some v := by simp [hf, yr, y23]
 have hy : y28 (H.set t ⟨o.gen + 1, .arr false false 9 [enc x]⟩) 9 (.ls t (o.gen + 1) 9 0 1) = some [enc x] := y54 (y2e (by omega))
 have build : ∀ (k g' : Nat), (k = 3 ∨ k = 5 ∨ k = 7) → ∃ H', evSt 1 (.lp 1 1 0 3) (.ls k g' 9 0 (C ++ [x]).length) ((H.set t ⟨o.gen + 1, .arr false false 9 [enc x]⟩).set k ⟨g', .arr false false 9 ((C ++ [x]).map enc)⟩) = some (.tup [], H') ∧ NR H' (C ++ [x]) (.ls k g' 9 0 (C ++ [x]).length) := by
  intro k g' hk
  have hf2 : ((H.set t ⟨o.gen + 1, .arr false false 9 [enc x]⟩).set k ⟨g', .arr false false 9 ((C ++ [x]).map enc)⟩)[1]? = some (FBx v) := by
   rw [yn (by omega), yn (by omega)]; exact hf
  have es := y82 (v := .ls k g' 9 0 (C ++ [x]).length) (off := 3) hf2 (by simp) rfl rfl
  refine ⟨_, es, by simp [hlen], ?_, ?_, .inr ⟨k, g', hk, rfl, ?_, by simp⟩⟩
  ·rw [yn (by omega), yn (by omega), yn (by omega)]; exact R.r0
  ·exact y2e (by simp [hlen])
  ·rw [yn (by omega)]; exact y2e (by simp [hlen]; omega)
 rcases R.c with ⟨rfl, rfl⟩ | ⟨k, g, hk, rfl, hb, hne⟩
 ·obtain ⟨o2, ho2⟩ : ∃ o2, (H.set t ⟨o.gen + 1, .arr false false 9 [enc x]⟩)[0 + j]? = some o2 := ⟨_, z9 (by simp; omega)⟩
  obtain ⟨H', e1, e2⟩ := build j (o2.gen + 1) hj
  refine ⟨_, _, _, H', l1, b, _, ?_, e1, e2⟩
  unfold y1v
  rw [hy]
  simp only [List.isEmpty_cons, zp, if_false]
  rw [if_pos (by rw [e48]; simp)]
  simp only [y2k, place, ho2]
  simp
 ·obtain ⟨H', e1, e2⟩ := build k (g + 1) hk
  have hb' : (H.set t ⟨o.gen + 1, .arr false false 9 [enc x]⟩)[k]? = some ⟨g, .arr false false (es Ins) ((C ++ []).map enc)⟩ := by
   rw [yn (by omega), z15]; exact hb
  have ap := ysw (α := Ins) (fb := 0) (sl := some j) (b := 96) (L := C) (M := [x]) (T := []) hy hb' (by rw [e48]; simp only [List.length_singleton]; omega)
  exact ⟨_, _, _, H', l1, b, _, ap, e1, e2⟩
theorem yw2 {N : Option (List Int)} (hN : (lst N).length ≤ 100) (v1 : AV) : ∀ (d i : Nat) (C : List Ins) (v : AV) (H : Heap), i + d = (lst N).length → C.length = i → NR H C v →
  ∃ H' v', yf7 v1 (.lp 1 1 0 0) (.int .i64 0) (slA N) (.int .i64 (lst N).length) (.int .i64 i) H = yzm v1 (.lp 1 1 0 0) (.int .i64 0) H' ∧ NR H' (C ++ ((lst N).drop i).map ecI) v'
 | 0, i, C, v, H, hd, hC, R => by
  have h : ¬ (i : Int) < ((lst N).length : Int) := by omega
  refine ⟨H, v, ?_, by rw [z14 (by omega), z2v, z15]; exact R⟩
  rw [ykh]
  simp only [y14u, yg, y9, h, decide_false, y0d, y1h]
 | d + 1, i, C, v, H, hd, hC, R => by
  have h : (i : Int) < ((lst N).length : Int) := by omega
  have hi : i < (lst N).length := by omega
  have g := z9 hi
  have ed : (lst N).drop i = (lst N)[i] :: (lst N).drop (i + 1) := zk hi
  generalize (lst N)[i] = n at g ed
  obtain ⟨gg, y, v', H1, l1, b, z, ap, es, R1⟩ := R.push (ecI n) (t := 2) (j := 3) (.inl rfl) (.inl rfl) (by omega)
  obtain ⟨H2, v2, e2, R2⟩ := yw2 hN v1 d (i + 1) _ _ H1 (by omega) (by simp [hC]) R1
  refine ⟨H2, v2, ?_, by rw [ed, z10]; simpa using R2⟩
  have hw : IntKind.wrap .i64 ((i : Int) + 1) = ((i + 1 : Nat) : Int) := by rw [y1a] <;> omega
  have bd : yq zCe [(0, 1, .int .i64 1), (5, 1, .int .i64 n)] = some (.agg (enc (ecI n))) := rfl
  rw [ykh, ← e2]
  simp only [y14u, yg, y9, h, decide_true, y0d, y1b, y1sh, y3j g, y2q, y2s, List.head?_cons, yk, zd, l1, bd, b, ye, ap, es, y1bp, yz, hw]
theorem y2h4 {o : Option (List Tx)} {x : Tx} {i : Nat} (hx : (lst o)[i]? = some x) (k : IntKind) : y10 1 (slA o) (.int k i) = some (.rp [.str x.s]) := y7x hx k
theorem yqd {T : Option (List Tx)} (hT : (lst T).length ≤ 100) : ∀ (d i : Nat) (C : List Ins) (v : AV) (H : Heap) (n : Int), i + d = (lst T).length → C.length ≤ 100 + i → 0 ≤ n → n ≤ 10000 → (∀ t ∈ lst T, t.s.length ≤ 9000000000000000000) → NR H C v →
  (∃ H' v', y9r (.lp 1 1 0 0) (.int .i64 n) (slA T) (.int .i64 (lst T).length) (.int .i64 i) H = y0m (.lp 1 1 0 0) H' ∧ NR H' (C ++ ((lst T).drop i).map etI) v') ∨
   y9r (.lp 1 1 0 0) (.int .i64 n) (slA T) (.int .i64 (lst T).length) (.int .i64 i) H = some ⟨.bool true, [], true, [], []⟩
 | 0, i, C, v, H, n, hd, hC, n0, n1, _, R => by
  have h : ¬ (i : Int) < ((lst T).length : Int) := by omega
  refine .inl ⟨H, v, ?_, by rw [z14 (by omega), z2v, z15]; exact R⟩
  rw [ymp]
  simp only [y14s, yg, y9, h, decide_false, yzo, y1h]
 | d + 1, i, C, v, H, n, hd, hC, n0, n1, hs, R => by
  have h : (i : Int) < ((lst T).length : Int) := by omega
  have hi : i < (lst T).length := by omega
  have g := z9 hi
  have ed : (lst T).drop i = (lst T)[i] :: (lst T).drop (i + 1) := zk hi
  have hm : (lst T)[i] ∈ lst T := z1n hi
  generalize (lst T)[i] = x at g ed hm
  have hx := hs x hm
  have hw : IntKind.wrap .i64 ((i : Int) + 1) = ((i + 1 : Nat) : Int) := by rw [y1a] <;> omega
  have hw2 : IntKind.wrap .i64 (n + (x.s.length : Int)) = n + x.s.length := by rw [y1a] <;> omega
  have ls : ∀ H : Heap, y17 0 (.str x.s) H = some (.int .i64 x.s.length) := fun H => rfl
  rw [ymp]
  simp only [y14s, yg, y9, h, decide_true, yzo, y1b, y1lf, y2h4 g, y2q, y2s, List.head?_cons, y1oc, ls, yz, hw2, y4m]
  by_cases hb : (10000 : Int) < n + x.s.length
  ·simp only [hb, decide_true, y1b]
   exact .inr rfl
  ·obtain ⟨gg, y, v', H1, l1, b, z, ap, es, R1⟩ := R.push (etI x) (t := 4) (j := 5) (.inr (.inl rfl)) (.inr (.inl rfl)) (by omega)
   have bd : yq zCe [(0, 1, .int .i64 3), (1, 1, .int .i64 1), (7, 1, .str x.s)] = some (.agg (enc (etI x))) := rfl
   simp only [hb, decide_false, y1h, y1ke, yk, zd, y9, l1, bd, b, ye, ap, es, y1kk, yz, hw]
   rcases yqd hT d (i + 1) _ _ H1 (n + x.s.length) (by omega) (by simp only [zg, List.length_singleton]; omega) (by omega) (by omega) hs R1 with ⟨H2, v2, e2, R2⟩ | e2
   ·exact .inl ⟨H2, v2, e2, by rw [ed, z10]; simpa using R2⟩
   ·exact .inr e2
theorem yw7 {L C : List Ins} (hLC : L = C) (hC : C.length ≤ 1000) (ha : ∀ x ∈ C, lst x.args = []) {j g : Nat} {bb : Bool} {H0 : Heap} (hb : H0[j]? = some ⟨g, .arr false bb 9 (C.map enc)⟩) (hj : j ≠ 9) (hl : 9 < H0.length) : ∀ (d i : Nat) (H : Heap), i + d = C.length → (∀ k, k ≠ 9 → H[k]? = H0[k]?) → 9 < H.length →
  ypk (slA (nz L)) (.ls j g 9 0 C.length) (.int .i64 C.length) (.int .i64 i) H = some ⟨.bool true, [], true, [], []⟩
 | 0, i, H, hd, hH, hl9 => by
  have h : ¬ (i : Int) < (C.length : Int) := by omega
  rw [yqm]
  simp only [y1zt, yg, y9, h, decide_false, y1yk, y1h]
  rfl
 | d + 1, i, H, hd, hH, hl9 => by
  have h : (i : Int) < (C.length : Int) := by omega
  have hi : i < C.length := by omega
  have gx := z9 hi
  have hm : C[i] ∈ C := z1n hi
  generalize C[i] = x at gx hm
  have hx := ha x hm
  obtain ⟨o, ho⟩ : ∃ o, H[9]? = some o := ⟨_, z9 hl9⟩
  have hbH : H[j]? = some ⟨g, .arr false bb 9 (C.map enc)⟩ := by rw [hH j hj]; exact hb
  have i1 : y10 9 (.ls j g 9 0 C.length) (.int .i64 (i : Int)) = some (.lp j g i 0) := by
   simp [y10, h]
  have lda : ∀ {H : Heap}, H[j]? = some ⟨g, .arr false bb 9 (C.map enc)⟩ → evLd true 9 (.lp j g i 0) H = some (.agg (enc x)) := by
   intro H hb
   have hr : yr H j g = some (bb, 9, C.map enc) := by simp [yr, y23, hb]
   have hg : (C.map (enc (α := Ins)))[i]? = some (enc x) := by simp [gx]
   rw [y3z, hr]
   simp only [hg, List.drop_zero]
   exact yeh x
  have i2 : y10 9 (slA (nz L)) (.int .i64 (i : Int)) = some (.rp (enc x)) := yeo (by rw [y4r, hLC]; exact gx) .i64
  have n9 : newC 0 (some 9) zCe H = some (.lp 9 (o.gen + 1) 0 0, H.set 9 (AX (o.gen + 1) zIns)) := yql (α := Ins) (fb := 0) (j := 9) zIns ho
  have s9 : evSt 9 (.lp 9 (o.gen + 1) 0 0) (.agg (enc x)) (H.set 9 (AX (o.gen + 1) zIns)) = some (.tup [], (H.set 9 (AX (o.gen + 1) zIns)).set 9 (AX (o.gen + 1) x)) := st_g (α := Ins) (y2e hl9)
  have hH2 : ∀ k, k ≠ 9 → ((H.set 9 (AX (o.gen + 1) zIns)).set 9 (AX (o.gen + 1) x))[k]? = H0[k]? := fun k hk => by rw [yn (fun e => hk e.symm), yn (fun e => hk e.symm)]; exact hH k hk
  have l9 : evLd true 9 (.lp 9 (o.gen + 1) 0 0) ((H.set 9 (AX (o.gen + 1) zIns)).set 9 (AX (o.gen + 1) x)) = some (.agg (enc x)) := ysm (α := Ins) (y2e (by rw [zh]; exact hl9))
  have hs : y5g x x = true := by simp [y5g]
  have hz : ∀ H : Heap, yv (fz H y1m) [.agg (enc x), .agg (enc x)] = some ⟨[.agg (enc x), .agg (enc x)], scal x && (scal x && true), []⟩ := fun H => by
   rw [ym, ym, y64, y1k]; rfl
  have cS : ∀ H, yc E (yd E) 0 none true 28 [.agg (enc x), .agg (enc x)] H = some (.bool true, H) := fun H => y18 rfl (hz H) rfl (by rw [y1c2 x x (by rw [hx]; simp), hs]) ⟨_, rfl, rfl⟩
  have hw : IntKind.wrap .i64 ((i : Int) + 1) = ((i + 1 : Nat) : Int) := by rw [y1a] <;> omega
  rw [yqm]
  simp only [y1zt, yg, y9, h, decide_true, y1yk, y1b, y2h7, i1, lda hbH, n9, ye, s9, i2, y2q, yeh, l9, cS, y2a, z1w, y1h, y2dy, yz, hw]
  exact yw7 hLC hC ha hb hj hl d (i + 1) _ (by omega) hH2 (by rw [zh, zh]; exact hl9)
end Go.Vm
namespace Go.Vm
open Cel
theorem y2eb {C : List Ins} (h : ∀ x ∈ C, yo7 x) (hb : ∀ x ∈ C, inI x.n ∧ x.s.length ≤ 9000000000000000000) (hl : C.length ≤ 1000) : FnFit (fNum C) ∧ y1db (fNum C) := by
 refine ⟨⟨fun x hx => ?_, ?_, ?_, ?_, ?_⟩, fun x hx => ?_⟩
 ·have hx' : x ∈ C := hx
  obtain ⟨b1, b2⟩ := hb x hx'
  have ea := (yd4 (h x hx')).2
  unfold inI at b1
  exact ⟨⟨b1.1, by omega⟩, by omega, by rw [ea]; simp⟩
 ·show C.length ≤ _; omega
 ·show (2 : Nat) ≤ _; decide
 ·show (0 : Nat) ≤ _; decide
 ·show (0 : Nat) ≤ _; decide
 ·have ea := (yd4 (h x hx)).2
  rw [ea]; simp
theorem y1b4 : yls (mvsL 0 []) 2 = some [] := by decide +kernel
theorem y21n {C : List Ins} (h : ∀ x ∈ C, yo7 x) (hl : C.length ≤ 1000) (t : Tb) : ytx (yh6 (fNum C) t []) (C.map fun x => (x, nwI x)) 0 ∧ WOk (lst (yh6 (fNum C) t []).W) ∧ (lst (yh6 (fNum C) t []).W).length ≤ 1000000 := by
 have es : (endC (fNum C) t []).s = C.foldl putM s0 := y1a5 C 0 (e0 [])
 have eY := y26m C s0 h rfl
 have hz := yov C s0 (fun x hx => (yd4 (h x hx)).2)
 have hz0 : s0.size = 0 := rfl
 have eW : lst (yh6 (fNum C) t []).W = (C.foldl putM s0).W := by
  simp only [yh6, y4r, es, eY, yic]
 have hu : Has (yh6 (fNum C) t []) (C.foldl putM s0) := ⟨by rw [eW], fun i _ => by rw [eW], by simp only [yh6, y4r, es], by simp only [yh6, y4r, es]⟩
 have hsz : (C.foldl putM s0).W.length + (C.foldl putM s0).N.length + (C.foldl putM s0).T.length + (C.foldl putM s0).Y.length = (C.foldl putM s0).size := rfl
 refine ⟨?_, ?_, ?_⟩
 ·exact ypx hu (by omega) (by omega) C s0 h rfl rfl
 ·rw [eW]; exact yxd C s0 (fun w hw => by cases hw)
 ·rw [eW]; omega
theorem y2fb {H : Heap} {j g : Nat} {C : List Ins} (h0 : H[0]? = some (AI 1 [2, 3])) (hj : H[j]? = some ⟨g, .arr false false 9 (C.map enc)⟩) (hj0 : j ≠ 0) : y1e [0, j] H = (H.set 0 ⟨1, .arr false true 1 (([2, 3] : List Int).map enc)⟩).set j ⟨g, .arr false true 9 (C.map enc)⟩ := by
 have h1 : (H.set 0 (⟨1, .arr false true 1 (([2, 3] : List Int).map enc)⟩ : AO))[j]? = some ⟨g, .arr false false 9 (C.map enc)⟩ := by rw [yn (fun e => hj0 e.symm)]; exact hj
 simp only [y1e, h0, h1]
set_option maxHeartbeats 1000000 in
theorem y2dn {C : List Ins} {v : AV} {H : Heap} (R : NR H C v) (hC : ∀ x ∈ C, yo7 x) (hb : ∀ x ∈ C, inI x.n ∧ x.s.length ≤ 9000000000000000000) (hl : C.length ≤ 1000) (h1 : 1 ≤ C.length) (he : C.getD (C.length - 1) default = erI) :
  y114 (.lp 1 1 0 0) H = some ⟨.bool true, [], true, [], []⟩ := by
 obtain ⟨hfit, hsm⟩ := y2eb hC hb hl
 have hwf := y2o5 hC (by omega) h1 he
 obtain ⟨t, r, _, _, _, c1, d1⟩ := yqh hfit hsm (by show (0 : Nat) ≤ _; decide) hwf (by show max 2 0 < 250; decide) (by show (0 : Nat) ≤ _; decide) (L := []) y1b4 (by decide)
 obtain ⟨hwk, hwo, hwl⟩ := y21n hC hl t
 generalize hU : yh6 (fNum C) t [] = U at *
 rcases R.c with ⟨rfl, _⟩ | ⟨j, g, hj, rfl, hob, hne⟩
 ·simp at h1
 have hlen := R.len
 have l5 : evLd true 5 (.lp 1 1 0 0) H = some (.agg [.ls 0 1 1 0 2, .nils, .int .i64 0, .ls j g 9 0 C.length, .nils]) := by
  simp [R.f1, yr, y23, y4w]
 have hz : ∃ b, yv (fz H y1m) [.agg [.ls 0 1 1 0 2, .nils, .int .i64 0, .ls j g 9 0 C.length, .nils]] = some ⟨[.agg (enc (fNum C))], b, [0, j]⟩ := by
  have e1 : fz H 11 (.ls 0 1 1 0 2) = some ⟨slA (some ([2, 3] : List Int)), ([2, 3] : List Int).all scal, [0]⟩ := yh1 (α := Int) (L := [2, 3]) (k := 9) R.r0
  have e2 : fz H 11 (.ls j g 9 0 C.length) = some ⟨slA (some C), C.all scal, [j]⟩ := yh1 (α := Ins) (L := C) (k := 9) hob
  have e3 : fz H 11 .nils = some ⟨.nils, true, []⟩ := rfl
  have e4 : fz H 11 (.int .i64 0) = some ⟨.int .i64 0, true, []⟩ := rfl
  refine ⟨(([2, 3] : List Int).all scal && (true && (true && (C.all scal && (true && true))))) && true, ?_⟩
  rw [ym, show fz H y1m (.agg [.ls 0 1 1 0 2, .nils, .int .i64 0, .ls j g 9 0 C.length, .nils]) = _ from ycy H 11 _]
  simp only [ym, e1, e2, e3, e4, y1k]
  rfl
 obtain ⟨b, hz⟩ := hz
 have cF := y0j (E := E) (C := yd E) (fb := 0) (f := 231) rfl hz c1 d1
 have key : ∃ H1, (if r.fresh || ([0, j] : List Nat).isEmpty then H else y1e [0, j] H) = H1 ∧ H1.length = 10 ∧ H1[1]? = some (FBx (.ls j g 9 0 C.length)) ∧ ∃ bb, H1[j]? = some ⟨g, .arr false bb 9 (C.map enc)⟩ := by
  cases r.fresh with
  | true => exact ⟨H, rfl, hlen, R.f1, false, hob⟩
  | false =>
   refine ⟨_, rfl, ?_⟩
   simp only [z1x, List.isEmpty_cons, zp, if_false]
   rw [y2fb R.r0 hob (by omega)]
   exact ⟨by simp [hlen], by rw [yn (by omega), yn (by omega)]; exact R.f1, true, y2e (by simp [hlen]; omega)⟩
 obtain ⟨H1, eH1, len1, f1, bb, ob1⟩ := key
 rw [eH1] at cF
 obtain ⟨o8, ho8⟩ : ∃ o, H1[0 + 8]? = some o := ⟨_, z9 (by omega)⟩
 have n8 : newC 0 (some 8) yd7 H1 = some (.lp 8 (o8.gen + 1) 0 0, H1.set 8 ⟨o8.gen + 1, .arr true false 8 [yd7]⟩) := by
  have := yql (α := Un) (fb := 0) (j := 8) zU ho8
  exact this
 have g8 : (H1.set 8 (⟨o8.gen + 1, .arr true false 8 [yd7]⟩ : AO))[8]? = some ⟨o8.gen + 1, .arr true false 8 [yd7]⟩ := y2e (by omega)
 have s8 := ymo (n := 8) (cells := enc U) g8 rfl rfl (y5t U)
 generalize hH2 : (H1.set 8 (⟨o8.gen + 1, .arr true false 8 [yd7]⟩ : AO)).set 8 ⟨o8.gen + 1, .arr true false 8 [enc U]⟩ = H2 at s8
 have h28 : H2[8]? = some (AG (o8.gen + 1) U) := by rw [← hH2]; exact y2e (by simp [len1])
 have h2o : ∀ k, k ≠ 8 → H2[k]? = H1[k]? := fun k hk => by rw [← hH2, yn (fun e => hk e.symm), yn (fun e => hk e.symm)]
 have len2 : H2.length = 10 := by rw [← hH2]; simp [len1]
 have l8 : evLd true 8 (.lp 8 (o8.gen + 1) 0 0) H2 = some (.agg (enc U)) := ysm (α := Un) h28
 obtain ⟨q, cW, dW⟩ := y2oh hwo (by omega) (r := C.map fun x => (x, nwI x)) (by intro e; rw [z3j] at e; exact hne e) hwk (by rw [zy]; omega)
 rw [List.map_map, show ((fun x : Ins × Int => x.1) ∘ fun x : Ins => (x, nwI x)) = id from rfl, List.map_id] at dW
 have hzU : yv (fz H2 y1m) [.agg (enc U)] = some ⟨[.agg (enc U)], scal U && true, []⟩ := by rw [ym, y64, y1k]; rfl
 have cW' := y18 (E := E) (C := yd E) (fb := 0) (f := 232) rfl hzU rfl cW dW
 have l3 : evLd false 1 (.lp 1 1 0 3) H2 = some (.ls j g 9 0 C.length) := by
  have := h2o 1 (by omega)
  rw [f1] at this
  simp [this, yr, y23]
 have ll : y17 1 (.ls j g 9 0 C.length) H2 = some (.int .i64 C.length) := rfl
 have ob2 : H2[j]? = some ⟨g, .arr false bb 9 (C.map enc)⟩ := by rw [h2o j (by omega)]; exact ob1
 have cmp := yw7 (L := C) rfl hl (fun x hx => (yd4 (hC x hx)).2) ob2 (by omega) (by omega) C.length 0 H2 (by omega) (fun _ _ => rfl) (by omega)
 rw [y114, l5, y9, cF, ye]
 simp only [y1y, List.getElem?_cons_zero, List.getElem?_cons_succ, y9]
 rw [n8, ye, s8, ye, y1ht, l8, y9, cW', ye]
 simp only [y1y, List.getElem?_cons_zero, List.getElem?_cons_succ, y9, y1aw, y6f, show decide ((0 : Int) ≠ 0) = false from rfl, y51, y2a, z1w, y1d, y12, y4r, yk, zd, l3, ll, ne_eq, not_true_eq_false, decide_false, y1h, y2bc]
 exact cmp
theorem yi4 (N : Option (List Int)) (T : Option (List Tx)) (hN : ∀ n ∈ lst N, inI n) (hT : ∀ t ∈ lst T, t.s.length ≤ 9000000000000000000) : (yd E).p 229 [slA N, slA T] = some ⟨.bool true, [], true, [], []⟩ := by
 rw [y2tq]
 show ywx _ _ [D0, D0, D0, D0, D0, D0, D0, D0, D0, D0] = _
 have ch : ∀ H, yc E (yd E) 0 none true 230 [] H = some (.bool true, H) := fun H => y18 (E := E) (args := []) (fa := ⟨[], true, []⟩) rfl rfl rfl y2dj ⟨_, rfl, rfl⟩
 rw [ywx, y1s8, ch, ye]
 simp only [y2a, y9, z1w, y1h, y1e8, y12, y4m]
 by_cases g1 : (100 : Int) < ((lst N).length : Int)
 ·simp only [g1, decide_true, y6z, y1g, y9, y1b]
  rfl
 simp only [g1, decide_false, y51, y9, y12, y4m, y1d]
 by_cases g2 : (100 : Int) < ((lst T).length : Int)
 ·simp only [g2, decide_true, y1b]
  rfl
 simp only [g2, decide_false, y1h]
 have b0 : yl 0 (some 0) 1 2 [.int .i64 0] [(0, .int .i64 2), (1, .int .i64 3)] [D0, D0, D0, D0, D0, D0, D0, D0, D0, D0] = some (.ls 0 1 1 0 2, [AI 1 [2, 3], D0, D0, D0, D0, D0, D0, D0, D0, D0]) := rfl
 have b1 : yq [.nils, .nils, .int .i64 0, .nils, .nils] [(0, 1, .ls 0 1 1 0 2)] = some (.agg [.ls 0 1 1 0 2, .nils, .int .i64 0, .nils, .nils]) := rfl
 have n1 : newC 0 (some 1) [.nils, .nils, .int .i64 0, .nils, .nils] [AI 1 [2, 3], D0, D0, D0, D0, D0, D0, D0, D0, D0] = some (.lp 1 1 0 0, [AI 1 [2, 3], ⟨1, .arr true false 5 [[.nils, .nils, .int .i64 0, .nils, .nils]]⟩, D0, D0, D0, D0, D0, D0, D0, D0]) := rfl
 have s1 : evSt 5 (.lp 1 1 0 0) (.agg [.ls 0 1 1 0 2, .nils, .int .i64 0, .nils, .nils]) [AI 1 [2, 3], ⟨1, .arr true false 5 [[.nils, .nils, .int .i64 0, .nils, .nils]]⟩, D0, D0, D0, D0, D0, D0, D0, D0] = some (.tup [], [AI 1 [2, 3], FBx .nils, D0, D0, D0, D0, D0, D0, D0, D0]) := rfl
 have R0 : NR [AI 1 [2, 3], FBx .nils, D0, D0, D0, D0, D0, D0, D0, D0] [] .nils := ⟨rfl, rfl, rfl, .inl ⟨rfl, rfl⟩⟩
 obtain ⟨H1, v1, e1, R1⟩ := yw2 (N := N) (by omega) (slA T) (lst N).length 0 [] .nils _ (by omega) rfl R0
 rw [z16, zr] at R1
 rw [y1jf, b0, ye, b1, y9, n1, ye, s1, ye, y1o8, y1m1]
 simp only [y12, y9]
 rw [show yf7 (slA T) (.lp 1 1 0 0) (.int .i64 0) (slA N) (.int .i64 (lst N).length) (.int .i64 0) [AI 1 [2, 3], FBx .nils, D0, D0, D0, D0, D0, D0, D0, D0] = _ from e1, yzm]
 simp only [y12, y9]
 rcases yqd (T := T) (by omega) (lst T).length 0 _ _ H1 0 (by omega) (by rw [zy]; omega) (Int.le_refl 0) (by omega) hT R1 with ⟨H2, v2, e2, R2⟩ | e2
 ·rw [show y9r (.lp 1 1 0 0) (.int .i64 0) (slA T) (.int .i64 (lst T).length) (.int .i64 0) H1 = _ from e2]
  rw [zr] at R2
  obtain ⟨gg, y, v', H3, l1, b, z, ap, es, R3⟩ := R2.push erI (t := 6) (j := 7) (.inr (.inr rfl)) (.inr (.inr rfl)) (by simp only [zg, zy]; omega)
  have bd : yq zCe [(0, 1, .int .i64 30), (2, 1, .int .i64 (-1))] = some (.agg (enc erI)) := rfl
  rw [y0m]
  simp only [yk, zd, y9, l1]
  rw [bd, y9, b, ye, ap, ye, es, ye]
  refine y2dn R3 (fun x hx => ?_) (fun x hx => ?_) ?_ ?_ ?_
  ·simp only [zt, z1y, List.mem_singleton] at hx
   rcases hx with (⟨n, _, rfl⟩ | ⟨t, _, rfl⟩) | rfl
   ·exact .inl ⟨n, rfl⟩
   ·exact .inr (.inl ⟨t, rfl⟩)
   ·exact .inr (.inr rfl)
  ·simp only [zt, z1y, List.mem_singleton] at hx
   rcases hx with (⟨n, hn, rfl⟩ | ⟨t, ht, rfl⟩) | rfl
   ·exact ⟨hN n hn, z2s _⟩
   ·exact ⟨by show inI 0; unfold inI; omega, hT t ht⟩
   ·exact ⟨by show inI 0; unfold inI; omega, z2s _⟩
  ·simp only [zg, zy, List.length_singleton]; omega
  ·simp only [zg, zy, List.length_singleton]; omega
  ·rw [ze]
   simp
 ·rw [show y9r (.lp 1 1 0 0) (.int .i64 0) (slA T) (.int .i64 (lst T).length) (.int .i64 0) H1 = _ from e2]
end Go.Vm
