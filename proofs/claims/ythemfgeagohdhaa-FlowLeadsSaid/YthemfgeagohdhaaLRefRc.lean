/- The document's All, Reach. -/
import Derived.Test.YthemfgeagohdhaaLRefF
namespace Go.Vm
open Cel
attribute [local simp] callAny callP heapOf_nil

theorem s_All (f : Fn) (i : Int) (hc : (lst f.code).length ≤ 9223372036854775807) (hr : (lst f.rows).length ≤ 100000000000) : (callW E).p 105 [.agg (enc f), .int .i64 i] = some (exO (nz (nextL f i ++ caughtL f i))) := by
  rw [x_regletref11_All]
  have hN := s_RNext f i hc
  have hC := s_RCaught f i (by omega)
  have c2 : ∀ h : Heap, callAny E (callW E) 0 none true 92 [.agg (enc f), .int .i64 i] h = some (slA (nz (caughtL f i)), h) := fun h => by simp [hC]
  have hl1 := nextL_len f i
  have hl2 := caughtL_len f i
  generalize nextL f i = N at *
  generalize caughtL f i = M at *
  have c1 := call_slot (α := Int) (E := E) (C := callW E) (fb := 0) (j := 1) (f := 95) (args := [.agg (enc f), .int .i64 i]) (H := [⟨1, .arr true false 5 [enc f]⟩, D0, D0]) (N := N) (o := D0) rfl (by simp; rfl) hN (.inl (by simp)) rfl
  have f2 : ∀ fb sl h, fpCall E (callW E) fb sl true 92 [.agg (enc f), .int .i64 i] h = some ([], []) := fun fb sl h => by simp [fpCall, hC]
  have f1 : fpCall E (callW E) 0 (some 1) false 95 [.agg (enc f), .int .i64 i] [⟨1, .arr true false 5 [enc f]⟩, D0, D0] = some ([], if N = [] then [] else [1]) := by
    cases N with
    | nil => simp [fpCall, hN]
    | cons x N => simp [fpCall, hN]
  have hb := app_bound (a := N.length) (b := M.length) (by omega)
  have l1 : ∀ t : Heap, evLd true 5 (.lp 0 1 0 0) (⟨1, .arr true false 5 [enc f]⟩ :: t) = some (.agg (enc f)) := fun t => by simp
  cases N with
  | nil =>
    have a1 := app_slot (α := Int) (H := [⟨1, .arr true false 5 [enc f]⟩, D0, D0]) (fb := 0) (j := 2) (g := 0) (b := 8) (o := D0) (y := slA (nz M)) (L := []) (M := M) (by simp) rfl hb
    obtain ⟨g', a1⟩ := a1
    simp only [slotV_nil, slotO_nil, List.set_cons_zero, List.set_cons_succ, Nat.zero_add, List.nil_append, if_true, es_int] at c1 f1 a1
    have hx := expo1_slotX (H := [⟨1, .arr true false 5 [enc f]⟩, D0, slotO g' D0 M]) (j := 2) (g := g') (o := D0) (L := M) rfl
    have hp : pairsOk [(ids1 (.lp 0 1 0 0), []), ([], []), ([], []), (ids1 (.lp 0 1 0 0), []), ([], []), ([], []), (ids1 (slA (nz M)), ids1 AV.nils ++ [0 + 2]), ([], [])] [(2, 3)] = true := by simp [pairsOk, fpApart, meets]
    simp only [regletref11_All_1, newC, cellsOf_agg, leaf_fn, if_true, newBox, place, List.getElem?_cons_zero, Nat.zero_add, List.set_cons_zero, oh_some, len_fn, l1, ob_some, f1, ofp_some, c1, f2, c2, a1]
    simp only [Nat.zero_add] at hp
    rw [hp, okK_t, hx, List.nil_append]
  | cons x N =>
    have a1 := app_stk (α := Int) (H := [⟨1, .arr true false 5 [enc f]⟩, ⟨1, .arr false false 1 ((x :: N).map enc)⟩, D0]) (fb := 0) (sl := some 2) (id := 1) (g := 1) (b := 8) (y := slA (nz M)) (L := x :: N) (M := M) (T := []) (by simp) (by simp) hb
    simp only [slotV, slotO, List.set_cons_zero, List.set_cons_succ, Nat.zero_add, es_int, List.length_cons, List.cons_append, reduceCtorEq, if_false] at c1 f1 a1
    have hx := expo1_own (α := Int) (h := [⟨1, .arr true false 5 [enc f]⟩, ⟨1 + 1, .arr false false 1 ((x :: (N ++ M)).map enc)⟩, D0]) (id := 1) (g := 1 + 1) (L := x :: (N ++ M)) (by simp)
    simp only [es_int, List.length_cons] at hx
    have hp : pairsOk [(ids1 (.lp 0 1 0 0), []), ([], []), ([], [1]), (ids1 (.lp 0 1 0 0), []), ([], []), ([], []), (ids1 (slA (nz M)), ids1 (.ls 1 1 1 0 (N.length + 1)) ++ [0 + 2]), ([], [])] [(2, 3)] = true := by simp [pairsOk, fpApart, meets]
    have c1' : callAny E (callW E) 0 (some 1) false 95 [.agg (enc f), .int .i64 i] [⟨1, .arr true false 5 [enc f]⟩, D0, D0] = some (.ls 1 1 1 0 (N.length + 1), [⟨1, .arr true false 5 [enc f]⟩, ⟨1, .arr false false 1 ((x :: N).map enc)⟩, D0]) := c1
    simp only [regletref11_All_1, newC, cellsOf_agg, leaf_fn, if_true, newBox, place, List.getElem?_cons_zero, Nat.zero_add, List.set_cons_zero, oh_some, len_fn, l1, ob_some, f1, ofp_some, c1', f2, c2, a1]
    simp only [Nat.zero_add] at hp
    rw [hp, okK_t, hx]
    rfl

theorem RReach_in (v1 v5 : AV) (n : Nat) (b : AO) (l : List Int) (hl : l.length ≤ 9223372036854775807) : ∀ (d k : Nat) (seen : List Bool) (more : Bool), k + d = l.length → seen.length = n →
    regletref11_Reach_L5 v1 (.ls 1 1 1 0 n) (.bool more) v5 (slA (nz l)) (.int .i64 k) [b, ⟨1, .arr false false 1 (seen.map enc)⟩] =
      regletref11_Reach_4 v1 (.ls 1 1 1 0 n) (.bool (rIn (l.drop k) (seen, more)).2) v5 [b, ⟨1, .arr false false 1 ((rIn (l.drop k) (seen, more)).1.map enc)⟩] := by
  intro d
  induction d with
  | zero =>
    intro k seen more hk hn
    have e1 : l.drop k = [] := List.drop_eq_nil_of_le (by omega)
    have hnk : ¬ ((k : Int) < (l.length : Int)) := by omega
    rw [regletref11_Reach_L5_go, e1]
    simp [regletref11_Reach_8, hnk, rIn]
  | succ d ih =>
    intro k seen more hk hn
    have hlt : k < l.length := by omega
    have hc : ((k : Int) < (l.length : Int)) := by omega
    have k1 := ixs_int (o := nz l) (i := k) (x := l[k]) (by rw [lst_nz]; exact List.getElem?_eq_getElem hlt) .i64
    have hw := wrap_up hlt hl
    rw [regletref11_Reach_L5_go, List.drop_eq_getElem_cons hlt]
    generalize l[k] = j at *
    have ih0 := fun seen more hn => ih (k + 1) seen more (by omega) hn
    push_cast at ih0
    rw [rIn]
    simp only
    by_cases h0 : 0 ≤ j
    rotate_left
    · rw [if_neg (fun h => h0 h.1)]
      simp [regletref11_Reach_8, regletref11_Reach_7, regletref11_Reach_6, hc, k1, h0, hw, ih0 seen more hn]
    by_cases h1 : j < (n : Int)
    rotate_left
    · rw [if_neg (fun h => h1 (by rw [← hn]; exact h.2.1))]
      simp [regletref11_Reach_8, regletref11_Reach_7, regletref11_Reach_6, hc, k1, h0, h1, hw, ih0 seen more hn]
    have hj : j.toNat < seen.length := by omega
    have r1 : evIxs 1 (.ls 1 1 1 0 n) (.int .i64 j) = some (.lp 1 1 j.toNat 0) := by simp [evIxs, h0, h1]
    have hgd : seen.getD j.toNat true = seen[j.toNat] := by rw [List.getD_eq_getElem?_getD, List.getElem?_eq_getElem hj]; rfl
    cases hs : seen[j.toNat] with
    | true =>
      rw [if_neg (fun h => by rw [hgd, hs] at h; cases h.2.2)]
      simp [regletref11_Reach_8, regletref11_Reach_7, regletref11_Reach_6, hc, k1, h0, h1, r1, hj, hs, hw, ih0 seen more hn]
    | false =>
      rw [if_pos ⟨h0, by omega, by rw [hgd, hs]⟩]
      have st : evSt 1 (.lp 1 1 j.toNat 0) (.bool true) [b, ⟨1, .arr false false 1 (seen.map enc)⟩] = some (.tup [], [b, ⟨1, .arr false false 1 ((seen.set j.toNat true).map enc)⟩]) :=
        evSt_at (α := Bool) (v := .bool true) (y := true) rfl hj rfl
      have ihs := ih0 (seen.set j.toNat true) true (by simpa using hn)
      have e : regletref11_Reach_8 v1 (.ls 1 1 1 0 n) (.bool more) v5 (slA (nz l)) (.int .i64 k) [b, ⟨1, .arr false false 1 (seen.map enc)⟩] =
          ob (evIxs 1 (slA (nz l)) (.int .i64 k)) fun v65 => ob (evLd false 1 v65 [b, ⟨1, .arr false false 1 (seen.map enc)⟩]) fun v66 => ob (evIxs 1 (.ls 1 1 1 0 n) v66) fun v67 =>
            oh (evSt 1 v67 (.bool true) [b, ⟨1, .arr false false 1 (seen.map enc)⟩]) fun _ h1 => regletref11_Reach_6 v1 (.ls 1 1 1 0 n) (.bool true) v5 (slA (nz l)) (.int .i64 k) h1 := by
        simp [regletref11_Reach_8, regletref11_Reach_7, hc, k1, h0, h1, r1, hj, hs]
      have l1 : ∀ H : Heap, evLd false 1 (.rp [.int .i64 j]) H = some (.int .i64 j) := fun H => by simp
      rw [e]
      simp only [k1, ob_some, l1, r1, st, oh_some, regletref11_Reach_6, evBin_add, hw, ihs]

theorem RReach_round (f : Fn) (hc : (lst f.code).length ≤ 9223372036854775807) (hr : (lst f.rows).length ≤ 100000000000) : ∀ (d i : Nat) (seen : List Bool) (more : Bool), i + d = (lst f.code).length → seen.length = (lst f.code).length →
    regletref11_Reach_L3 (.lp 0 1 0 0) (.ls 1 1 1 0 (lst f.code).length) (.bool more) (.int .i64 i) [⟨1, .arr true false 5 [enc f]⟩, ⟨1, .arr false false 1 (seen.map enc)⟩] =
      regletref11_Reach_L2 (.lp 0 1 0 0) (.ls 1 1 1 0 (lst f.code).length) (.bool (rRound (succL f) d i (seen, more)).2) [⟨1, .arr true false 5 [enc f]⟩, ⟨1, .arr false false 1 ((rRound (succL f) d i (seen, more)).1.map enc)⟩] := by
  intro d
  induction d with
  | zero =>
    intro i seen more hi hn
    have h1 : ¬ ((i : Int) < ((lst f.code).length : Int)) := by omega
    rw [regletref11_Reach_L3_go]
    simp [regletref11_Reach_15, h1, rRound]
  | succ d ih =>
    intro i seen more hi hn
    have hlt : i < (lst f.code).length := by omega
    have h1 : ((i : Int) < ((lst f.code).length : Int)) := by omega
    have hw := wrap_up hlt hc
    rw [regletref11_Reach_L3_go, rRound]
    have ih0 := fun seen more hn => ih (i + 1) seen more (by omega) hn
    push_cast at ih0
    have hj : i < seen.length := by omega
    have r1 : evIxs 1 (.ls 1 1 1 0 (lst f.code).length) (.int .i64 i) = some (.lp 1 1 i 0) := by simp [evIxs, h1]
    have hgd : seen.getD i false = seen[i] := by rw [List.getD_eq_getElem?_getD, List.getElem?_eq_getElem hj]; rfl
    simp only [hgd]
    cases hs : seen[i] with
    | false =>
      rw [if_neg Bool.false_ne_true]
      simp [regletref11_Reach_15, regletref11_Reach_12, regletref11_Reach_4, h1, r1, hj, hs, hw, ih0 seen more hn]
    | true =>
      rw [if_pos rfl]
      have hA := s_All f i hc hr
      have hs2 : succL f i = nextL f i ++ caughtL f i := rfl
      rw [← hs2] at hA
      have hlen := succL_len f i
      have lp := RReach_in (.lp 0 1 0 0) (.int .i64 i) (lst f.code).length ⟨1, .arr true false 5 [enc f]⟩ (succL f i) (by omega) _ 0 seen more (Nat.zero_add _) hn
      simp only [List.drop_zero, Int.ofNat_zero] at lp
      have hln : (rIn (succL f i) (seen, more)).1.length = (lst f.code).length := by
        have : ∀ (l : List Int) (s : List Bool × Bool), (rIn l s).1.length = s.1.length := by
          intro l
          induction l with
          | nil => intro s; rfl
          | cons j l ih => intro s; rw [rIn, ih]; split <;> simp
        rw [this]; exact hn
      have ihs := ih0 (rIn (succL f i) (seen, more)).1 (rIn (succL f i) (seen, more)).2 hln
      have lp' : regletref11_Reach_10 (.lp 0 1 0 0) (.ls 1 1 1 0 (lst f.code).length) (.bool more) (.int .i64 i) (slA (nz (succL f i))) [⟨1, .arr true false 5 [enc f]⟩, ⟨1, .arr false false 1 (seen.map enc)⟩] = _ := lp
      have c1 : ∀ h : Heap, callAny E (callW E) 0 none true 105 [.agg (enc f), .int .i64 i] h = some (slA (nz (succL f i)), h) := fun h => by simp [hA]
      have e : regletref11_Reach_15 (.lp 0 1 0 0) (.ls 1 1 1 0 (lst f.code).length) (.bool more) (.int .i64 i) [⟨1, .arr true false 5 [enc f]⟩, ⟨1, .arr false false 1 (seen.map enc)⟩] =
          regletref11_Reach_11 (.lp 0 1 0 0) (.ls 1 1 1 0 (lst f.code).length) (.bool more) (.int .i64 i) [⟨1, .arr true false 5 [enc f]⟩, ⟨1, .arr false false 1 (seen.map enc)⟩] := by
        simp [regletref11_Reach_15, regletref11_Reach_12, h1, r1, hj, hs]
      have l1 : ∀ t : Heap, evLd true 5 (.lp 0 1 0 0) (⟨1, .arr true false 5 [enc f]⟩ :: t) = some (.agg (enc f)) := fun t => by simp
      rw [e]
      simp only [regletref11_Reach_11, l1, ob_some, c1, oh_some, lp', regletref11_Reach_4, evBin_add, hw, ihs]

theorem RReach_all (f : Fn) (hc : (lst f.code).length ≤ 9223372036854775807) (hr : (lst f.rows).length ≤ 100000000000) : ∀ (k : Nat) (seen r : List Bool), seen.length = (lst f.code).length → rAll (lst f.code).length (succL f) k seen = some r →
    regletref11_Reach_L2 (.lp 0 1 0 0) (.ls 1 1 1 0 (lst f.code).length) (.bool true) [⟨1, .arr true false 5 [enc f]⟩, ⟨1, .arr false false 1 (seen.map enc)⟩] = some (exO (some r)) := by
  intro k
  induction k with
  | zero => intro seen r _ h; cases h
  | succ k ih =>
    intro seen r hn h
    rw [rAll] at h
    rw [regletref11_Reach_L2_go]
    have lp := RReach_round f hc hr _ 0 seen false (Nat.zero_add _) hn
    have lp' : regletref11_Reach_17 (.lp 0 1 0 0) (.ls 1 1 1 0 (lst f.code).length) (.bool false) [⟨1, .arr true false 5 [enc f]⟩, ⟨1, .arr false false 1 (seen.map enc)⟩] = _ := lp
    have hln : (rRound (succL f) (lst f.code).length 0 (seen, false)).1.length = (lst f.code).length := by
      have h1 : ∀ (l : List Int) (s : List Bool × Bool), (rIn l s).1.length = s.1.length := by
        intro l
        induction l with
        | nil => intro s; rfl
        | cons j l ih => intro s; rw [rIn, ih]; split <;> simp
      have h2 : ∀ (d i : Nat) (s : List Bool × Bool), (rRound (succL f) d i s).1.length = s.1.length := by
        intro d
        induction d with
        | zero => intro i s; rfl
        | succ d ih => intro i s; rw [rRound, ih]; split <;> simp [h1]
      rw [h2]; exact hn
    generalize rRound (succL f) (lst f.code).length 0 (seen, false) = p at *
    obtain ⟨s, more⟩ := p
    simp only at h hln lp'
    simp only [regletref11_Reach_20, cnd_t, regletref11_Reach_18, lp']
    cases more with
    | true => exact ih s r hln h
    | false =>
      simp only [Bool.false_eq_true, if_false, Option.some.injEq] at h
      subst h
      rw [regletref11_Reach_L2_go, regletref11_Reach_20, cnd_f, regletref11_Reach_1, ← hln]
      exact expo1_own (α := Bool) (by simp)

theorem s_RReach (f : Fn) (hc : (lst f.code).length ≤ 30000) (hr : (lst f.rows).length ≤ 1000000) : (callW E).p 104 [.agg (enc f)] = some (exO (some (reachL f))) := by
  rw [x_regletref11_Reach]
  have b1 : ((lst f.code).length : Int) ≤ 140737488355328 := by omega
  have b2 : ((lst f.code).length : Int) ≤ 4611686018427387904 := by omega
  by_cases h0 : (lst f.code).length = 0
  · have hnil : lst f.code = [] := List.eq_nil_of_length_eq_zero h0
    have e : reachL f = [] := by
      have := reachL_len f
      rw [h0] at this
      exact List.eq_nil_of_length_eq_zero this
    obtain ⟨r, h, h1, h2⟩ := rAll_ends (n := (lst f.code).length) (S := succL f) (A := [0]) 1 [] (by simp [h0]) (fun i h => by simp at h) (by simp [unseen]) (fun j _ h3 h4 => by omega)
    have er := reachL_of h1 h2
    subst er
    have := RReach_all f (by omega) (by omega) _ _ _ (by simp [h0]) h
    have t' : regletref11_Reach_22 (.lp 0 1 0 0) (.ls 1 1 1 0 (lst f.code).length) [⟨1, .arr true false 5 [enc f]⟩, ⟨1, .arr false false 1 (([] : List Bool).map enc)⟩] = _ := this
    simp only [List.map_nil, h0] at t'
    simp [regletref11_Reach_26, regletref11_Reach_25, regletref11_Reach_24, mkSC, hnil]
    exact t'
  · have hp : 0 < (lst f.code).length := by omega
    have hp' : (0 : Int) < ((lst f.code).length : Int) := by omega
    have hset : ∀ i : Nat, ((List.replicate (lst f.code).length false).set 0 true)[i]? = some true → i = 0 := by
      intro i hi
      rw [List.getElem?_set] at hi
      split at hi
      · rename_i e; exact e.symm
      · rw [List.getElem?_replicate] at hi
        split at hi <;> cases hi
    have h00 : ((List.replicate (lst f.code).length false).set 0 true)[0]? = some true := by simp [hp]
    obtain ⟨r, h, h1, h2⟩ := rAll_ends (n := (lst f.code).length) (S := succL f) (A := [0]) ((lst f.code).length + 1) ((List.replicate (lst f.code).length false).set 0 true) (by simp)
      (fun i hi => by rw [hset i hi]; exact Rch.base (j := 0) (by simp) (by omega) hp') (by
        unfold unseen
        exact Nat.lt_succ_of_le (Nat.le_trans List.countP_le_length (by rw [List.length_set, List.length_replicate]; exact Nat.le_refl _))) (fun j hj h3 h4 => by
        rw [List.mem_singleton] at hj
        subst hj
        exact h00)
    have er := reachL_of h1 h2
    subst er
    have := RReach_all f (by omega) (by omega) _ _ _ (by simp) h
    have t' : regletref11_Reach_22 (.lp 0 1 0 0) (.ls 1 1 1 0 (lst f.code).length) [⟨1, .arr true false 5 [enc f]⟩, ⟨1, .arr false false 1 (((List.replicate (lst f.code).length false).set 0 true).map enc)⟩] = _ := this
    have st : evSt 1 (.lp 1 1 0 0) (.bool true) [⟨1, .arr true false 5 [enc f]⟩, ⟨1, .arr false false 1 ((List.replicate (lst f.code).length false).map enc)⟩] = some (.tup [], [⟨1, .arr true false 5 [enc f]⟩, ⟨1, .arr false false 1 (((List.replicate (lst f.code).length false).set 0 true).map enc)⟩]) :=
      evSt_at (α := Bool) (v := .bool true) (y := true) rfl (by rw [List.length_replicate]; exact hp) rfl
    have hix : evIxs 1 (.ls 1 1 1 0 (lst f.code).length) (.int .i64 0) = some (.lp 1 1 0 0) := by
      have hne : lst f.code ≠ [] := fun e => by rw [e] at hp; exact Nat.lt_irrefl _ hp
      simp [evIxs, hne]
    have e26 : regletref11_Reach_26 (.agg (enc f)) [⟨0, .dead⟩, ⟨0, .dead⟩] = regletref11_Reach_24 (.lp 0 1 0 0) (.ls 1 1 1 0 (lst f.code).length) [⟨1, .arr true false 5 [enc f]⟩, ⟨1, .arr false false 1 ((List.replicate (lst f.code).length false).map enc)⟩] := by
      simp [regletref11_Reach_26, regletref11_Reach_25, mkSC, b1, b2]
    rw [e26]
    simp only [regletref11_Reach_24, evLen_ls, ob_some, evBin_gtr, hp', decide_true, cnd_t, hix, st, oh_some]
    exact t'
end Go.Vm
