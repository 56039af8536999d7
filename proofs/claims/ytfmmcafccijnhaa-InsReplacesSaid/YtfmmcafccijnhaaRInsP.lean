/- What 'Replace' answers; whether two lists, two instructions are the same. -/
import Derived.Test.YtfmmcafccijnhaaRInsU
namespace Go.Vm
open Cel
attribute [local simp] callAny callP heapOf_nil

set_option maxHeartbeats 1000000 in
theorem repl_call (x : Ins) (l : Option (List Int)) (hc : calls x.op = true) (hn : (lst (uses x)).length = (lst l).length) (hx : (lst x.args).length ≤ 2 ^ 38) (hl : (lst l).length ≤ 2 ^ 38) :
    ∃ r, (callW E).p 27 [.agg (enc x), slA l] = some r ∧ Reads r (.agg (enc (repl x l))) := by
  have e : repl x l = { x with args := l } := by simp [repl, hn, hc]
  have h1 := s_Clone_int l hl
  rw [e, x_ins_Replace]
  cases l with
  | none =>
    refine ⟨⟨.agg (enc { x with args := none }), [], scal { x with args := none }, [], []⟩, ?_, ⟨_, fz_enc _ _, rfl⟩⟩
    simp [ins_Replace_1, ins_Replace_2, ins_Replace_3, ins_Replace_4, ins_Replace_5, ins_Replace_6, ins_Replace_7, ins_Replace_8, s_Uses x hx, hn, hc, h1]
  | some L =>
    refine ⟨⟨.agg (insRow x (.ls 0 0 1 0 L.length)), [.arr false false 1 (L.map enc)], true, [], []⟩, ?_, insRow_fz x [.arr false false 1 (L.map enc)] rfl⟩
    simp only [lst_some] at hn
    simp [ins_Replace_1, ins_Replace_2, ins_Replace_3, ins_Replace_4, ins_Replace_5, ins_Replace_6, ins_Replace_7, ins_Replace_8, s_Uses x hx, hn, hc, h1]
    exact expo1_insRow x (by simp)

set_option maxHeartbeats 2000000 in
theorem s_Replace (x : Ins) (l : Option (List Int)) (hx : (lst x.args).length ≤ 2 ^ 38) (hl : (lst l).length ≤ 2 ^ 38) :
    ∃ r, (callW E).p 27 [.agg (enc x), slA l] = some r ∧ Reads r (.agg (enc (repl x l))) := by
  by_cases hn : (lst (uses x)).length = (lst l).length
  · by_cases hc : calls x.op = true
    · exact repl_call x l hc hn hx hl
    · have hc' : calls x.op = false := by simpa using hc
      refine ⟨⟨.agg (enc (repl x l)), [], scal (repl x l), [], []⟩, ?_, ⟨_, fz_enc _ _, rfl⟩⟩
      have h3 := uses_le3 hc'
      rw [hn] at h3
      rw [x_ins_Replace]
      match hL : lst l, h3 with
      | [], _ => rw [hL] at hn; simp [ins_Replace_1, ins_Replace_2, ins_Replace_3, ins_Replace_4, ins_Replace_5, ins_Replace_6, ins_Replace_7, ins_Replace_8, s_Uses x hx, hn, hc', hL, repl, putABC]
      | [a], _ => 
        rw [hL] at hn
        have e0 := ixs_int (o := l) (i := 0) (x := a) (by rw [hL]; rfl) .i64
        simp [ins_Replace_1, ins_Replace_2, ins_Replace_3, ins_Replace_4, ins_Replace_5, ins_Replace_6, ins_Replace_7, ins_Replace_8, s_Uses x hx, hn, hc', hL, repl, putABC, show evIxs 1 (slA l) (.int .i64 0) = _ from e0]
      | [a, b], _ =>
        rw [hL] at hn
        have e0 := ixs_int (o := l) (i := 0) (x := a) (by rw [hL]; rfl) .i64
        have e1 := ixs_int (o := l) (i := 1) (x := b) (by rw [hL]; rfl) .i64
        simp [ins_Replace_1, ins_Replace_2, ins_Replace_3, ins_Replace_4, ins_Replace_5, ins_Replace_6, ins_Replace_7, ins_Replace_8, s_Uses x hx, hn, hc', hL, repl, putABC, show evIxs 1 (slA l) (.int .i64 0) = _ from e0, show evIxs 1 (slA l) (.int .i64 1) = _ from e1]
      | [a, b, c], _ =>
        rw [hL] at hn
        have e0 := ixs_int (o := l) (i := 0) (x := a) (by rw [hL]; rfl) .i64
        have e1 := ixs_int (o := l) (i := 1) (x := b) (by rw [hL]; rfl) .i64
        have e2 := ixs_int (o := l) (i := 2) (x := c) (by rw [hL]; rfl) .i64
        simp [ins_Replace_1, ins_Replace_2, ins_Replace_3, ins_Replace_4, ins_Replace_5, ins_Replace_6, ins_Replace_7, ins_Replace_8, s_Uses x hx, hn, hc', hL, repl, putABC, show evIxs 1 (slA l) (.int .i64 0) = _ from e0, show evIxs 1 (slA l) (.int .i64 1) = _ from e1, show evIxs 1 (slA l) (.int .i64 2) = _ from e2]
      | _ :: _ :: _ :: _ :: _, h => simp only [List.length_cons] at h; omega
  · refine ⟨⟨.agg (enc x), [], scal x, [], []⟩, ?_, ⟨_, fz_enc _ _, by rw [repl, if_pos hn]⟩⟩
    have hn' : ¬ ((lst (uses x)).length : Int) = ((lst l).length : Int) := by omega
    rw [x_ins_Replace]
    simp [ins_Replace_1, ins_Replace_2, ins_Replace_3, ins_Replace_4, ins_Replace_5, ins_Replace_6, ins_Replace_7, ins_Replace_8, s_Uses x hx, hn']
end Go.Vm
