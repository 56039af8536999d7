/- flow.Reach: which places can be reached. -/
import Derived.Test.YthemfgeagohdhaaLFlowS
namespace Go.Vm
open Cel
attribute [local simp] callAny callP heapOf_nil

theorem set_row (seen : List Bool) (i : Nat) : (seen.map enc).set i [.bool true] = (seen.set i true).map enc := by
  rw [List.map_set]; rfl

theorem Reach_loop (f : Fn) (hc : (lst f.code).length ≤ 9223372036854775807) (hr : (lst f.rows).length ≤ 274877906944) : ∀ (k : Nat) (seen : List Bool) (op T : List Int) (g : Nat) (o3 o4 : AO) (r : List Bool), seen.length = (lst f.code).length →
    unseen seen * ((lst f.rows).length + 3) + op.length ≤ 137438953472 → dfs (lst f.code).length (succL f) k seen op = some r →
    flow_Reach_L2 (.lp 0 1 0 0) (.ls 1 1 1 0 (lst f.code).length) (.ls 2 g 1 0 op.length) [⟨1, .arr true false 5 [enc f]⟩, ⟨1, .arr false false 1 (seen.map enc)⟩, ⟨g, .arr false false 1 ((op ++ T).map enc)⟩, o3, o4] = some (exO (some r)) := by
  intro k
  induction k with
  | zero => intro seen op T g o3 o4 r _ _ h; cases h
  | succ k ih =>
    intro seen op T g o3 o4 r hl hm h
    rw [dfs] at h
    rw [flow_Reach_L2_go]
    cases hop : op.getLast? with
    | none =>
      rw [hop] at h
      injection h with h
      subst h
      rw [List.getLast?_eq_none_iff] at hop
      subst hop
      simp [flow_Reach_8, flow_Reach_1]
      rw [← hl]
      exact expo1_own (α := Bool) (by simp)
    | some i =>
      rw [hop] at h
      simp only at h
      have e := getLast_split hop
      generalize op.dropLast = L at *
      subst e
      simp only [List.length_append, List.length_singleton] at hm
      have hlen : ((L ++ [i]).length : Int) = (L.length : Int) + 1 := by simp
      have hp : (0 : Int) < (L.length : Int) + 1 := by omega
      have hw : IntKind.wrap .i64 ((L.length : Int) + 1 - 1) = (L.length : Int) := by rw [wrap_i64] <;> omega
      have s1 := stk_ix 2 g L.length
      have s2 := stk_slc 2 g L.length
      have s3 : evLd false 1 (.lp 2 g L.length 0) [⟨1, .arr true false 5 [enc f]⟩, ⟨1, .arr false false 1 (seen.map enc)⟩, ⟨g, .arr false false 1 ((L ++ [i] ++ T).map enc)⟩, o3, o4] = some (.int .i64 i) :=
        stk_ld (T := T) (by simp)
      have e8 : flow_Reach_8 (.lp 0 1 0 0) (.ls 1 1 1 0 (lst f.code).length) (.ls 2 g 1 0 (L ++ [i]).length) [⟨1, .arr true false 5 [enc f]⟩, ⟨1, .arr false false 1 (seen.map enc)⟩, ⟨g, .arr false false 1 ((L ++ [i] ++ T).map enc)⟩, o3, o4] =
          flow_Reach_4 (.lp 0 1 0 0) (.ls 1 1 1 0 (lst f.code).length) (.ls 2 g 1 0 L.length) (.int .i64 i) [⟨1, .arr true false 5 [enc f]⟩, ⟨1, .arr false false 1 (seen.map enc)⟩, ⟨g, .arr false false 1 ((L ++ (i :: T)).map enc)⟩, o3, o4] := by
        simp only [flow_Reach_8, flow_Reach_6, flow_Reach_5, List.length_append, List.length_singleton, evLen_ls, ob_some, Int.natCast_add, Int.natCast_one, evBin_gtr, hp, decide_true, cnd_t, evBin_sub, hw, s1, s2, s3]
        simp
      rw [e8]
      have skip := fun h => ih seen L (i :: T) g o3 o4 r hl (by omega) h
      by_cases h0 : i < 0
      · rw [if_pos (.inl h0)] at h
        simpa [flow_Reach_4, h0] using skip h
      by_cases h1 : ((lst f.code).length : Int) ≤ i
      · rw [if_pos (.inr (.inl h1))] at h
        simpa [flow_Reach_4, h0, h1] using skip h
      have g0 : 0 ≤ i := by omega
      have g1 : i < ((lst f.code).length : Int) := by omega
      have hi : i.toNat < seen.length := by omega
      have r1 : evIxs 1 (.ls 1 1 1 0 (lst f.code).length) (.int .i64 i) = some (.lp 1 1 i.toNat 0) := by simp [evIxs, g0, g1]
      cases hs : seen[i.toNat] with
      | true =>
        have hsg : seen.getD i.toNat true = true := by rw [List.getD_eq_getElem?_getD, List.getElem?_eq_getElem hi, hs]; rfl
        rw [if_pos (.inr (.inr hsg))] at h
        simpa [flow_Reach_4, h0, h1, r1, hi, hs] using skip h
      | false =>
        have hsg : ¬ (i < 0 ∨ ((lst f.code).length : Int) ≤ i ∨ seen.getD i.toNat true = true) := by
          rw [List.getD_eq_getElem?_getD, List.getElem?_eq_getElem hi, hs]
          simp [h0, h1]
        rw [if_neg hsg] at h
        have hu := unseen_set hi hs
        have hS := succL_len f i.toNat
        have hn2 := nextL_len f i
        have hN := s_Next f i hc
        have hC := s_Caught f i hr
        have ei : ((i.toNat : Nat) : Int) = i := by omega
        have hSe : succL f i.toNat = nextL f i ++ caughtL f i := by rw [succL, ei]
        rw [hSe] at h hS
        rw [List.length_append] at hS
        rw [← hu, Nat.add_mul] at hm
        have b1 := app_bound (a := L.length) (b := (nextL f i).length) (by omega)
        have b2 := app_bound (a := (L ++ nextL f i).length) (b := (caughtL f i).length) (by rw [List.length_append]; omega)
        have a1 := app_stk (α := Int) (H := [⟨1, .arr true false 5 [enc f]⟩, ⟨1, .arr false false 1 ((seen.set i.toNat true).map enc)⟩, ⟨g, .arr false false 1 ((L ++ (i :: T)).map enc)⟩, o3, o4]) (fb := 0) (sl := some 3) (id := 2) (g := g) (y := slA (nz (nextL f i))) (L := L) (M := nextL f i) (T := i :: T) (by simp) rfl b1
        have a2 := app_stk (α := Int) (H := [⟨1, .arr true false 5 [enc f]⟩, ⟨1, .arr false false 1 ((seen.set i.toNat true).map enc)⟩, ⟨g + 1, .arr false false 1 ((L ++ nextL f i).map enc)⟩, o3, o4]) (fb := 0) (sl := some 4) (id := 2) (g := g + 1) (y := slA (nz (caughtL f i))) (L := L ++ nextL f i) (M := caughtL f i) (T := []) (by simp) (by simp) b2
        have := ih (seen.set i.toNat true) (L ++ nextL f i ++ caughtL f i) [] (g + 1 + 1) o3 o4 r (by simpa using hl) (by simp only [List.length_append]; omega) (by rw [List.append_assoc]; exact h)
        simp only [List.append_nil] at this
        simp only [es_int, List.set_cons_succ, List.set_cons_zero] at a1 a2
        have e4 : flow_Reach_4 (.lp 0 1 0 0) (.ls 1 1 1 0 (lst f.code).length) (.ls 2 g 1 0 L.length) (.int .i64 i) [⟨1, .arr true false 5 [enc f]⟩, ⟨1, .arr false false 1 (seen.map enc)⟩, ⟨g, .arr false false 1 ((L ++ (i :: T)).map enc)⟩, o3, o4] =
            flow_Reach_3 (.lp 0 1 0 0) (.ls 1 1 1 0 (lst f.code).length) (.ls 2 g 1 0 L.length) (.int .i64 i) [⟨1, .arr true false 5 [enc f]⟩, ⟨1, .arr false false 1 (seen.map enc)⟩, ⟨g, .arr false false 1 ((L ++ (i :: T)).map enc)⟩, o3, o4] := by
          simp [flow_Reach_4, h0, h1, r1, hi, hs]
        rw [e4]
        have st : evSt 1 (.lp 1 1 i.toNat 0) (.bool true) [⟨1, .arr true false 5 [enc f]⟩, ⟨1, .arr false false 1 (seen.map enc)⟩, ⟨g, .arr false false 1 ((L ++ (i :: T)).map enc)⟩, o3, o4] =
            some (.tup [], [⟨1, .arr true false 5 [enc f]⟩, ⟨1, .arr false false 1 ((seen.set i.toNat true).map enc)⟩, ⟨g, .arr false false 1 ((L ++ (i :: T)).map enc)⟩, o3, o4]) := by
          exact evSt_at (α := Bool) (v := .bool true) (y := true) rfl hi rfl
        have l1 : ∀ t : Heap, evLd true 5 (.lp 0 1 0 0) (⟨1, .arr true false 5 [enc f]⟩ :: t) = some (.agg (enc f)) := fun t => by simp
        have c1 : ∀ h : Heap, callAny E (callW E) 0 none true 81 [.agg (enc f), .int .i64 i] h = some (slA (nz (nextL f i)), h) := fun h => by simp [hN]
        have c2 : ∀ h : Heap, callAny E (callW E) 0 none true 79 [.agg (enc f), .int .i64 i] h = some (slA (nz (caughtL f i)), h) := fun h => by simp [hC]
        simp only [flow_Reach_3, r1, ob_some, st, oh_some, l1, c1, a1, c2, a2, this]

theorem s_Reach (f : Fn) (hc : (lst f.code).length ≤ 30000) (hr : (lst f.rows).length ≤ 1000000) : (callW E).p 101 [.agg (enc f)] = some (exO (some (reachL f))) := by
  rw [x_flow_Reach]
  have hm : unseen (List.replicate (lst f.code).length false) * ((lst f.rows).length + 3) + [(0 : Int)].length < 30000 * 1000003 + 2 := by
    have h1 : unseen (List.replicate (lst f.code).length false) ≤ 30000 := by
      unfold unseen
      exact Nat.le_trans List.countP_le_length (by simpa using hc)
    have := Nat.mul_le_mul h1 (show (lst f.rows).length + 3 ≤ 1000003 by omega)
    simp only [List.length_singleton]
    omega
  obtain ⟨r, h⟩ := dfs_ends (n := (lst f.code).length) (S := succL f) (B := (lst f.rows).length + 2) (fun i _ => succL_len f i) _ (List.replicate (lst f.code).length false) [0] (by simp) hm
  obtain ⟨h1, h2⟩ := dfs_spec _ _ _ r DfsI.start h
  have e := reachL_of h1 h2
  subst e
  have := Reach_loop f (by omega) (by omega) _ _ [0] [] 1 D0 D0 _ (by simp) (by omega) h
  have b1 : ((lst f.code).length : Int) ≤ 140737488355328 := by omega
  have b2 : ((lst f.code).length : Int) ≤ 4611686018427387904 := by omega
  simp only [List.map_replicate, List.append_nil] at this
  simp [flow_Reach_13, flow_Reach_12, flow_Reach_11, mkSC, b1, b2, buildSC, fillRows]
  exact this
end Go.Vm
