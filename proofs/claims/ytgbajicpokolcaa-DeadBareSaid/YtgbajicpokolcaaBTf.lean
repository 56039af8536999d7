/- The document's search for a read: from places on. It writes into what it is handed. The document's Before, After, Across on the machine. The document's After. The document's Pure. DeadBare: only pure instructions are gone, and none is left that writes a register which nobody reads. -/
import Derived.Test.YtgbajicpokolcaaBTe
set_option linter.unusedSimpArgs false
set_option linter.unusedVariables false
set_option linter.unusedSectionVars false
namespace Go.Vm
open Cel
def SK (H : Heap) (fb : Nat) (op : List Int) (v : AV) : Prop :=
  (op = [] ∧ v = .nils) ∨ ∃ k g T, k ≠ fb ∧ k ≠ fb + 1 ∧ k < fb + 4 ∧ v = .ls k g 1 0 op.length ∧ H[k]? = some (AI g (op ++ T))
theorem SK.set {H : Heap} {fb : Nat} {op : List Int} {v : AV} (h : SK H fb op v) {a : Nat} {x : AO} (ha : a = fb ∨ a = fb + 1) : SK (H.set a x) fb op v := by
  rcases h with h | ⟨k, g, T, h1, h2, h3, h4, h5⟩
  · exact .inl h
  · exact .inr ⟨k, g, T, h1, h2, h3, h4, by rw [y16 (by omega)]; exact h5⟩
theorem SK.app {H : Heap} {fb j : Nat} {L M : List Int} {v y : AV} {o : AO} (h : SK H fb L v) (hy : y35 H 1 y = some (M.map enc)) (ho : H[fb + j]? = some o) (hj : 2 ≤ j) (hj4 : j < 4) (hb : L.length + M.length ≤ 137438953472) :
    ∃ v' H', y2b fb (some j) 1 8 v y H = some (v', H') ∧ SK H' fb (L ++ M) v' ∧ H'.length = H.length ∧ H'[fb]? = H[fb]? ∧ H'[fb + 1]? = H[fb + 1]? ∧ (∀ i, i < fb → i ∉ ids1 v → H'[i]? = H[i]?) ∧ ∀ i, i < fb → i ∉ ids1 v → i ∉ ids1 v' := by
  have bd := y1qs hb
  rcases h with ⟨rfl, rfl⟩ | ⟨k, g, T, h1, h2, h3, rfl, h5⟩
  · obtain ⟨g', e⟩ := yq7 (α := Int) (fb := fb) (j := j) (g := 0) (b := 8) (o := o) (L := []) (M := M) hy ho bd
    simp only [yuh, yd7, List.nil_append] at e
    refine ⟨_, _, e, ?_, by simp, y16 (by omega), y16 (by omega), fun i hi _ => y16 (by omega), fun i hi _ => ?_⟩
    · cases M with
      | nil => exact .inl ⟨rfl, rfl⟩
      | cons m M => exact .inr ⟨fb + j, g', [], by omega, by omega, by omega, rfl, by rw [y4m (y7w ho), y229 (by simp)]; simp⟩
    · rcases y22h (α := Int) (fb + j) g' M with h | h <;> rw [h] <;> simp <;> omega
  · have e := y2av (α := Int) (fb := fb) (sl := some j) (b := 8) (M := M) hy h5 bd
    simp only [yuh] at e
    refine ⟨_, _, e, .inr ⟨k, g + 1, [], h1, h2, h3, rfl, by rw [y4m (y7w h5)]; simp⟩, by simp, y16 h1, y16 h2, fun i hi hn => y16 (fun e => hn (by simp [e])), fun i hi hn => hn⟩
section
variable (f : Fn) (w : Wf f) (hs : ydj f) (hr : (lst f.rows).length ≤ 10000000000000)
include w hs hr
theorem y1ka (fb : Nat) (r : Int) (g1 : Nat) : ∀ (k : Nat) (seen : List Bool) (op : List Int) (H : Heap) (v : AV) (res : Bool), seen.length = (lst f.code).length → (∀ j ∈ op, 0 ≤ j ∧ j < (lst f.code).length) →
    unseen seen * (nB + 1) + op.length ≤ 137438953472 → H.length = fb + 4 → H[fb]? = some (AB f) → H[fb + 1]? = some (AL g1 seen) → SK H fb op v → dfsF (lst f.code).length (y9u f r) (ywt f r) k seen op = some res →
    ∃ H', y8d fb v (.int .i64 r) (.lp fb 1 0 0) (.ls (fb + 1) g1 1 0 (lst f.code).length) H = some (.bool res, H') ∧ H'.length = H.length ∧ ∀ i, i < fb → i ∉ ids1 v → H'[i]? = H[i]? := by
  have hn := w.n2
  intro k
  induction k with
  | zero => intro seen op H v res _ _ _ _ _ _ _ h; cases h
  | succ k ih =>
    intro seen op H v res hl hrange hm hH hf hS hsk h
    rw [dfsF] at h
    rw [y1ds]
    cases hop : op.getLast? with
    | none =>
      rw [hop] at h
      injection h with h
      subst h
      rw [List.getLast?_eq_none_iff] at hop
      subst hop
      refine ⟨H, ?_, rfl, fun _ _ _ => rfl⟩
      have hlen : y11 1 v H = some (.int .i64 ((0 : Nat) : Int)) := by
        rcases hsk with ⟨_, rfl⟩ | ⟨k, g, T, _, _, _, rfl, _⟩ <;> rfl
      simp only [yk9, hlen, y9, yjn, show ¬ (0 : Int) < ((0 : Nat) : Int) by omega, decide_false, y39, y1qy]
    | some i =>
      rw [hop] at h
      simp only at h
      have e := y4u hop
      generalize op.dropLast = L at *
      subst e
      obtain ⟨g0, g1'⟩ := hrange i (by simp)
      have hrL : ∀ j ∈ L, 0 ≤ j ∧ j < (lst f.code).length := fun j hj => hrange j (by simp [hj])
      simp only [List.length_append, List.length_singleton] at hm
      have hp : (0 : Int) < (L.length : Int) + 1 := by omega
      have hw : IntKind.wrap .i64 ((L.length : Int) + 1 - 1) = (L.length : Int) := by rw [y2a] <;> omega
      obtain ⟨ka, g, T, k1, k2, k3, rfl, k5⟩ : ∃ k g T, k ≠ fb ∧ k ≠ fb + 1 ∧ k < fb + 4 ∧ v = .ls k g 1 0 (L ++ [i]).length ∧ H[k]? = some (AI g (L ++ [i] ++ T)) := by
        rcases hsk with ⟨h, _⟩ | h
        · simp at h
        · exact h
      have s1 := y2j9 ka g L.length
      have s2 := y2d9 ka g L.length
      have s3 : evLd false 1 (.lp ka g L.length 0) H = some (.int .i64 i) := y2mr (T := T) (by simp [yp, y3s, k5])
      have h1 : ¬ ((lst f.code).length : Int) ≤ i := by omega
      have h0 : ¬ i < 0 := by omega
      have hskL : SK H fb L (.ls ka g 1 0 L.length) := .inr ⟨ka, g, i :: T, k1, k2, k3, rfl, by rw [k5, List.append_assoc]; rfl⟩
      have e12 : yk9 fb (.ls ka g 1 0 (L ++ [i]).length) (.int .i64 r) (.lp fb 1 0 0) (.ls (fb + 1) g1 1 0 (lst f.code).length) H =
          ynr fb (.ls ka g 1 0 L.length) (.int .i64 r) (.lp fb 1 0 0) (.ls (fb + 1) g1 1 0 (lst f.code).length) (.int .i64 i) H := by
        have q1 : ((L ++ [i]).length : Int) = (L.length : Int) + 1 := by simp
        have q2 : (L ++ [i]).length = L.length + 1 := by simp
        rw [yk9, y8i, y9, q1, yjn, y9, decide_eq_true hp, y2i, y1el, y8i, y9, q1, ydq, y9, hw, q2, s1, y9, s3, y9, y1ub, y8i, y9, ← q2, q1, ydq, y9, hw, q2, s2, y9]
      rw [e12]
      have hi : i.toNat < seen.length := by omega
      have r1 := yxd (n := (lst f.code).length) g0 g1' (fb + 1) g1 .i64
      have lS := y1br (α := Bool) (id := fb + 1) (i := i.toNat) (v := .bool seen[i.toNat]) hS (List.getElem?_eq_getElem hi) rfl
      cases hsn : seen[i.toNat] with
      | true =>
        rw [hsn] at lS
        have hsg : seen.getD i.toNat true = true := by rw [List.getD_eq_getElem?_getD, List.getElem?_eq_getElem hi, hsn]; rfl
        rw [if_pos (.inr (.inr hsg))] at h
        obtain ⟨H', q1, q2, q3⟩ := ih seen L H _ res hl hrL (by omega) hH hf hS hskL h
        refine ⟨H', ?_, q2, fun i hi hn => q3 i hi (by simpa using hn)⟩
        rw [← q1]
        simp only [ynr, yj, y9, h0, decide_false, yf1, y8i, y1l, h1, y1e, r1, lS, y2i]
      | false =>
        rw [hsn] at lS
        have hsg : ¬ (i < 0 ∨ ((lst f.code).length : Int) ≤ i ∨ seen.getD i.toNat true = true) := by
          rw [List.getD_eq_getElem?_getD, List.getElem?_eq_getElem hi, hsn]
          simp; omega
        rw [if_neg hsg] at h
        have st := yfa (α := Bool) (H := H) (id := fb + 1) (g := g1) (i := i.toNat) (L := seen) (v := .bool true) (y := true) hS hi rfl
        simp only [y2bs] at st
        have f1 : (H.set (fb + 1) (AL g1 (seen.set i.toNat true)))[fb]? = some (AB f) := by rw [y16 (by omega)]; exact hf
        have S1 : (H.set (fb + 1) (AL g1 (seen.set i.toNat true)))[fb + 1]? = some (AL g1 (seen.set i.toNat true)) := y4m (by omega)
        have sk1 := hskL.set (a := fb + 1) (x := AL g1 (seen.set i.toNat true)) (.inr rfl)
        have n1 : (H.set (fb + 1) (AL g1 (seen.set i.toNat true))).length = fb + 4 := by simpa using hH
        have fr1 : ∀ i', i' < fb → (H.set (fb + 1) (AL g1 (seen.set i.toNat true)))[i']? = H[i']? := fun i' hi' => y16 (by omega)
        have e6 : ynr fb (.ls ka g 1 0 L.length) (.int .i64 r) (.lp fb 1 0 0) (.ls (fb + 1) g1 1 0 (lst f.code).length) (.int .i64 i) H =
            yl6 fb (.ls ka g 1 0 L.length) (.int .i64 r) (.lp fb 1 0 0) (.ls (fb + 1) g1 1 0 (lst f.code).length) (.int .i64 i) (H.set (fb + 1) (AL g1 (seen.set i.toNat true))) := by
          simp only [ynr, yj, y9, h0, decide_false, yf1, y8i, y1l, h1, y1e, r1, lS, y39, y1me, st, yn]
        rw [e6]
        generalize H.set (fb + 1) (AL g1 (seen.set i.toNat true)) = H1 at *
        have hlt : i.toNat < (lst f.code).length := by omega
        have ei : ((i.toNat : Nat) : Int) = i := by omega
        have hx := y4a hlt
        have k9 := y61 (o := f.code) g0 hx .i64
        have hxa := hs _ (List.mem_of_getElem? hx)
        have hU := y2cx (yd f i.toNat) hxa
        have hD := y2ks (yd f i.toNat)
        have hus := y1d7 _ hxa
        have hIn := y2kt r (nz (lst (uses (yd f i.toNat)))) (by rw [y7i]; omega)
        rw [y7i, ← y23u] at hIn
        have hC := y1w1 f i (by omega)
        have hN := y1y0 f i (by omega)
        have ax : ∀ H : Heap, yo (fz H y1a) [.agg (enc (yd f i.toNat))] = some ⟨[.agg (enc (yd f i.toNat))], scal (yd f i.toNat) && true, []⟩ := fun H => by
          rw [ye, y5y, yx]; rfl
        have af : ∀ H : Heap, yo (fz H y1a) [.agg (enc f), .int .i64 i] = some ⟨[.agg (enc f), .int .i64 i], scal f && (true && true), []⟩ := fun H => by
          rw [ye, ye, y5y, y5n, yx]; rfl
        have au : ∀ H : Heap, yo (fz H y1a) [slA (nz (lst (uses (yd f i.toNat)))), .int .i64 r] = some ⟨[slA (nz (lst (uses (yd f i.toNat)))), .int .i64 r], (lst (nz (lst (uses (yd f i.toNat))))).isEmpty && (true && true), []⟩ := fun H => by
          rw [ye, ye, y1ba, y5n, yx]; rfl
        have cU : ∀ H, y6 E (y7 E) fb none true 15 [.agg (enc (yd f i.toNat))] H = some (slA (nz (lst (uses (yd f i.toNat)))), H) := fun H => y15 rfl (ax H) rfl hU ⟨_, yjo _, rfl⟩
        have cD : ∀ H, y6 E (y7 E) fb none true 16 [.agg (enc (yd f i.toNat))] H = some (.int .i64 (defr (yd f i.toNat)), H) := fun H => y15 rfl (ax H) rfl hD ⟨_, rfl, rfl⟩
        have cI : ∀ H, y6 E (y7 E) fb none true 94 [slA (nz (lst (uses (yd f i.toNat)))), .int .i64 r] H = some (.bool (ywt f r i.toNat), H) := fun H => y15 rfl (au H) rfl hIn ⟨_, rfl, rfl⟩
        have cC : ∀ H, y6 E (y7 E) fb none true 92 [.agg (enc f), .int .i64 i] H = some (slA (nz (y10 f i)), H) := fun H => y15 rfl (af H) rfl hC ⟨_, yjo _, rfl⟩
        have cN : ∀ H, y6 E (y7 E) fb none true 95 [.agg (enc f), .int .i64 i] H = some (slA (nz (y1m f i)), H) := fun H => y15 rfl (af H) rfl hN ⟨_, yjo _, rfl⟩
        have rf : ∀ {H : Heap}, H[fb]? = some (AB f) → yp H fb 1 = some (false, 5, [enc f]) := fun h => by simp [yp, y3s, h]
        have l0 : ∀ {H : Heap}, H[fb]? = some (AB f) → evLd true 5 (.lp fb 1 0 0) H = some (.agg (enc f)) := fun h => by simp [y38, rf h]
        have l3 : ∀ {H : Heap}, H[fb]? = some (AB f) → evLd false 1 (.lp fb 1 0 3) H = some (slA f.code) := fun h => by simp [y38, rf h]
        have lx : ∀ t : Heap, evLd true 9 (.rp (enc (yd f i.toNat))) t = some (.agg (enc (yd f i.toNat))) := fun t => by simp
        cases hh : ywt f r i.toNat with
        | true =>
          rw [hh] at h cI
          injection h with h
          subst h
          refine ⟨H1, ?_, by rw [n1, hH], fun i' hi' _ => fr1 i' hi'⟩
          simp only [yl6, y9, y14, Nat.zero_add, l3 f1, k9, lx, cU, yn, cI, y2i]
        | false =>
          rw [hh] at h cI
          simp only [Bool.false_eq_true, if_false] at h
          have hu := yl3 hi hsn
          have hS2 := yug w r i.toNat
          have hn2 := yea f i
          have hc2 := w.caught_len i
          have hnB : 20000 ≤ nB := by decide
          have hSe : y9u f r i.toNat = y10 f i ++ if defr (yd f i.toNat) = r then [] else y1m f i := by rw [y9u, ei]
          rw [hSe] at h hS2
          rw [← hu, Nat.add_mul] at hm
          obtain ⟨o2, ho2⟩ : ∃ o, H1[fb + 2]? = some o := ⟨_, List.getElem?_eq_getElem (by omega)⟩
          have ry : y35 H1 1 (slA (nz (y10 f i))) = some ((y10 f i).map enc) := by rw [ym1, y7i]
          obtain ⟨v2, H2, a1, a2, a3, a4, a5, a6, a7⟩ := sk1.app (M := y10 f i) ry ho2 (by omega) (by omega) (by omega)
          have f2 := a4.trans f1
          have S2 := a5.trans S1
          have n2 := a3.trans n1
          have e8 : yl6 fb (.ls ka g 1 0 L.length) (.int .i64 r) (.lp fb 1 0 0) (.ls (fb + 1) g1 1 0 (lst f.code).length) (.int .i64 i) H1 =
              cnd (.bool (decide (defr (yd f i.toNat) ≠ r)))
                (oh (y2b fb (some 3) 1 8 v2 (slA (nz (y1m f i))) H2) fun v69 h5 => y8d fb v69 (.int .i64 r) (.lp fb 1 0 0) (.ls (fb + 1) g1 1 0 (lst f.code).length) h5)
                (y8d fb v2 (.int .i64 r) (.lp fb 1 0 0) (.ls (fb + 1) g1 1 0 (lst f.code).length) H2) := by
            simp only [yl6, y9, y14, Nat.zero_add, l3 f1, l3 f2, k9, lx, cU, yn, cI, y39, y1fu, l0 f1, cC, a1, cD, y47, l0 f2, cN]
          rw [e8]
          by_cases hd : defr (yd f i.toNat) = r
          · rw [if_pos hd, List.append_nil] at h hS2
            obtain ⟨H', q1, q2, q3⟩ := ih (seen.set i.toNat true) (L ++ y10 f i) H2 v2 res (by simpa using hl) (fun j hj => by
              rcases List.mem_append.1 hj with hj | hj
              · exact hrL j hj
              · exact w.caught hj) (by rw [List.length_append]; omega) n2 f2 S2 a2 h
            have hdd : decide (defr (yd f i.toNat) ≠ r) = false := by simp [hd]
            rw [hdd, y39]
            refine ⟨H', q1, by rw [q2, n2, hH], fun i' hi' hn' => ?_⟩
            rw [q3 i' hi' (a7 i' hi' (by simpa using hn')), a6 i' hi' (by simpa using hn'), fr1 i' hi']
          · rw [if_neg hd] at h hS2
            rw [List.length_append] at hS2
            obtain ⟨o3, ho3⟩ : ∃ o, H2[fb + 3]? = some o := ⟨_, List.getElem?_eq_getElem (by omega)⟩
            have rz : y35 H2 1 (slA (nz (y1m f i))) = some ((y1m f i).map enc) := by rw [ym1, y7i]
            obtain ⟨v3, H3, b1, b2, b3, b4, b5, b6, b7⟩ := a2.app (M := y1m f i) rz ho3 (by omega) (by omega) (by rw [List.length_append]; omega)
            obtain ⟨H', q1, q2, q3⟩ := ih (seen.set i.toNat true) (L ++ y10 f i ++ y1m f i) H3 v3 res (by simpa using hl) (fun j hj => by
              rcases List.mem_append.1 hj with hj | hj
              · rcases List.mem_append.1 hj with hj | hj
                · exact hrL j hj
                · exact w.caught hj
              · rw [← ei] at hj
                exact w.next hlt hj) (by simp only [List.length_append]; omega) (b3.trans n2) (b4.trans f2) (b5.trans S2) b2 (by rw [List.append_assoc]; exact h)
            have hdd : decide (defr (yd f i.toNat) ≠ r) = true := by simp [hd]
            rw [hdd, y2i, b1, yn]
            refine ⟨H', q1, by rw [q2, b3, n2, hH], fun i' hi' hn' => ?_⟩
            have y1 := a7 i' hi' (by simpa using hn')
            rw [q3 i' hi' (b7 i' hi' y1), b6 i' hi' y1, a6 i' hi' (by simpa using hn'), fr1 i' hi']
open Classical in
theorem y2in (r : Nat) (fb : Nat) (h : Heap) (A : List Int) (v : AV) (hA : ∀ j ∈ A, 0 ≤ j ∧ j < (lst f.code).length) (hl : A.length ≤ 1000000)
    (hv : (A = [] ∧ v = .nils) ∨ ∃ k g T, k < h.length ∧ v = .ls k g 1 0 A.length ∧ h[k]? = some (AI g (A ++ T))) :
    ∃ H', y6 E (y7 E) fb none false 93 [.agg (enc f), v, .int .i64 r] h = some (.bool (decide (y4n f A r)), H') ∧ ∀ i, i < h.length → i ∉ ids1 v → H'[i]? = h[i]? := by
  have hn := w.n2
  have hn1 := w.n1
  have hmes : unseen (List.replicate (lst f.code).length false) * (nB + 1) + A.length < 20000 * 100003 + 1000002 := by
    have h1 : unseen (List.replicate (lst f.code).length false) ≤ 20000 := by
      unfold unseen
      exact Nat.le_trans List.countP_le_length (by simpa using hn)
    have := Nat.mul_le_mul h1 (show nB + 1 ≤ 100003 from by decide)
    omega
  obtain ⟨res, hres⟩ := yhw (n := (lst f.code).length) (S := y9u f r) (hit := ywt f r) (B := nB) (fun i _ => yug w r i) _ (List.replicate (lst f.code).length false) A (by simp) hmes
  have hspec := yi6 _ _ _ res DfsI.start (fun i hi => by rw [List.getElem?_replicate] at hi; split at hi <;> cases hi) hres
  have hres2 : decide (y4n f A r) = res := by
    have : res = true ↔ y4n f A r := by
      rw [hspec]
      unfold y4n ywt
      simp only [List.contains_iff_mem]
    cases res with
    | true => exact decide_eq_true (this.1 rfl)
    | false => exact decide_eq_false fun h => by have := this.2 h; cases this
  rw [hres2]
  have c0 : y6 E (y7 E) fb none false 93 [.agg (enc f), v, .int .i64 r] h = (y7 E).i 93 [.agg (enc f), v, .int .i64 r] h.length h := rfl
  rw [c0, y2jd, if_pos rfl]
  have d0 : (h ++ yi 4)[h.length + 0]? = some ⟨0, .dead⟩ := y29h (by omega)
  have nc : newC h.length (some 0) (cellsOf (.agg (enc f))) (h ++ yi 4) = some (.lp h.length 1 0 0, (h ++ yi 4).set h.length (AB f)) := by
    have : (h ++ yi 4)[h.length]? = some ⟨0, .dead⟩ := d0
    simp [this]
  have hlen : (h ++ yi 4).length = h.length + 4 := by simp [yi]
  have f1 : ((h ++ yi 4).set h.length (AB f))[h.length]? = some (AB f) := y4m (by omega)
  have d1 : ((h ++ yi 4).set h.length (AB f))[h.length + 1]? = some ⟨0, .dead⟩ := by
    rw [y16 (by omega)]; exact y29h (by omega)
  have fr : ∀ i, i < h.length → ((h ++ yi 4).set h.length (AB f))[i]? = h[i]? := fun i hi => by rw [y16 (by omega), y2lg hi]
  have n1 : ((h ++ yi 4).set h.length (AB f)).length = h.length + 4 := by rw [List.length_set, hlen]
  generalize (h ++ yi 4).set h.length (AB f) = H1 at *
  have l3 : evLd false 1 (.lp h.length 1 0 3) H1 = some (slA f.code) := by
    have : yp H1 h.length 1 = some (false, 5, [enc f]) := by simp [yp, y3s, f1]
    simp [y38, this]
  have b1 : ((lst f.code).length : Int) ≤ 140737488355328 := by omega
  have b2 : ((lst f.code).length : Int) ≤ 4611686018427387904 := by omega
  have mk : mkSC h.length (some 1) 1 1 [.bool false] (.int .i64 (lst f.code).length) (.int .i64 (lst f.code).length) H1 = some (.ls (h.length + 1) 1 1 0 (lst f.code).length, H1.set (h.length + 1) (AL 1 (List.replicate (lst f.code).length false))) := by
    have e : AL 1 (List.replicate (lst f.code).length false) = ⟨1, .arr false false 1 (List.replicate (lst f.code).length [.bool false])⟩ := by simp [AL]
    rw [e]
    simp [mkSC, b1, b2, d1]
  have S2 : (H1.set (h.length + 1) (AL 1 (List.replicate (lst f.code).length false)))[h.length + 1]? = some (AL 1 (List.replicate (lst f.code).length false)) := y4m (by omega)
  have f2 : (H1.set (h.length + 1) (AL 1 (List.replicate (lst f.code).length false)))[h.length]? = some (AB f) := by rw [y16 (by omega)]; exact f1
  have fr2 : ∀ i, i < h.length → (H1.set (h.length + 1) (AL 1 (List.replicate (lst f.code).length false)))[i]? = h[i]? := fun i hi => by rw [y16 (by omega), fr i hi]
  have n2 : (H1.set (h.length + 1) (AL 1 (List.replicate (lst f.code).length false))).length = h.length + 4 := by rw [List.length_set, n1]
  generalize hH2 : H1.set (h.length + 1) (AL 1 (List.replicate (lst f.code).length false)) = H2 at *
  have sk : SK H2 h.length A v := by
    rcases hv with hv | ⟨k, g, T, k1, k2, k3⟩
    · exact .inl hv
    · exact .inr ⟨k, g, T, by omega, by omega, by omega, k2, by rw [fr2 k k1, k3]⟩
  obtain ⟨H', q1, q2, q3⟩ := y1ka f w hs hr h.length r 1 _ _ A H2 v res (by simp) hA (by omega) n2 f2 S2 sk hres
  refine ⟨H', ?_, fun i hi hn => by rw [q3 i hi hn, fr2 i hi]⟩
  rw [← q1]
  simp only [yvw, nc, yn, ywi, y14, Nat.zero_add, y9, l3, y2q, mk]
end
end Go.Vm
namespace Go.Vm
open Cel
theorem yk0 {α : Type} {b : Bool} (h : b = true) (x : Option α) : okK b x = x := by rw [h]; rfl
end Go.Vm
namespace Go.Vm
open Cel
section
variable (f : Fn) (w : Wf f) (hs : ydj f) (hr : (lst f.rows).length ≤ 10000000000000)
include w hs hr
theorem y0n (i r : Int) : (y7 E).p 90 [.agg (enc f), .int .i64 i, .int .i64 r] = some ⟨.bool (aftR f i r), [], true, [], []⟩ := by
  have hn := w.n2
  rw [y2jh]
  have n0 : newC 0 (some 0) (cellsOf (.agg (enc f))) [D0, D0] = some (.lp 0 1 0 0, [AB f, D0]) := by simp
  have l0 : ∀ t : Heap, evLd true 5 (.lp 0 1 0 0) (AB f :: t) = some (.agg (enc f)) := fun t => by simp
  have l3 : ∀ t : Heap, evLd false 1 (.lp 0 1 0 3) (AB f :: t) = some (slA f.code) := fun t => by simp
  have lr : ∀ t : Heap, evLd false 1 (.lp 0 1 0 0) (AB f :: t) = some (slA f.regs) := fun t => by simp
  unfold aftR
  by_cases h1 : 0 ≤ i
  · by_cases h2 : i < (lst f.code).length
    · by_cases h3 : 0 ≤ r
      · by_cases h4 : r < (lst f.regs).length
        · have af : ∀ H : Heap, yo (fz H y1a) [.agg (enc f), .int .i64 i] = some ⟨[.agg (enc f), .int .i64 i], scal f && (true && true), []⟩ := fun H => by
            rw [ye, ye, y5y, y5n, yx]; rfl
          have hN := y1y0 f i (by omega)
          have fN : ∀ H, y3i E (y7 E) 0 (some 1) false 95 [.agg (enc f), .int .i64 i] H = some ([], ownI (0 + 1) (nz (y1m f i))) := fun H => yus rfl (af H) hN rfl
          have cN := y1os (α := Int) (E := E) (C := y7 E) (fb := 0) (j := 1) (f := 95) (H := [AB f, D0]) (o := D0) rfl (af _) hN (.inl (by simp)) rfl
          have hlen := yea f i
          have hv : (y1m f i = [] ∧ y2d Int (0 + 1) (D0.gen + 1) (y1m f i) = .nils) ∨ ∃ k g T, k < ([AB f, D0].set (0 + 1) (y28 (D0.gen + 1) D0 (y1m f i))).length ∧ y2d Int (0 + 1) (D0.gen + 1) (y1m f i) = .ls k g 1 0 (y1m f i).length ∧ ([AB f, D0].set (0 + 1) (y28 (D0.gen + 1) D0 (y1m f i)))[k]? = some (AI g (y1m f i ++ T)) := by
            cases hN2 : y1m f i with
            | nil => exact .inl ⟨rfl, rfl⟩
            | cons a l => exact .inr ⟨1, 1, [], by simp, rfl, by simp [y28]⟩
          have hlt : i.toNat < (lst f.code).length := by omega
          obtain ⟨H', c1, _⟩ := y2in f w hs hr r.toNat 0 ([AB f, D0].set (0 + 1) (y28 (D0.gen + 1) D0 (y1m f i))) (y1m f i) (y2d Int (0 + 1) (D0.gen + 1) (y1m f i)) (fun j hj => by
            have := w.next hlt (to := j) (by rw [show ((i.toNat : Nat) : Int) = i by omega]; exact hj)
            exact this) (by omega) hv
          rw [show ((r.toNat : Nat) : Int) = r by omega] at c1
          simp only [yi1, n0, yn, y1l, y9, h1, decide_true, y55, y19o, y64, y14, Nat.zero_add, l3, y2q, yj, h2, y18, h3, lr, h4, l0, ykt, fN, cN, c1, yy, Bool.true_and]
          refine yk0 ?_ _
          cases y1m f i <;> rfl
        · simp only [yi1, n0, yn, y1l, y9, h1, decide_true, y55, y19o, yy9, y64, y14, Nat.zero_add, l3, y2q, yj, h2, y18, h3, lr, h4, decide_false, y79, yci, y1e, yy, Bool.true_and, Bool.false_and]
          exact yk0 rfl _
      · simp only [yi1, n0, yn, y1l, y9, h1, decide_true, y55, y19o, yy9, y64, y14, Nat.zero_add, l3, y2q, yj, h2, y18, h3, decide_false, y79, yci, y1e, yy, Bool.true_and, Bool.false_and]
        exact yk0 rfl _
    · simp only [yi1, n0, yn, y1l, y9, h1, decide_true, y55, y19o, yy9, y64, y14, Nat.zero_add, l3, y2q, yj, h2, y18, decide_false, y79, yci, y1e, yy, Bool.true_and, Bool.false_and]
      exact yk0 rfl _
  · simp only [yi1, n0, yn, y1l, y9, h1, decide_false, y79, yci, yy9, y64, y1e, yy, Bool.false_and]
    exact yk0 rfl _
end
end Go.Vm
namespace Go.Vm
open Cel
def y6g : List Int := [1, 2, 3, 4, 5, 6, 13, 15, 16, 18, 22]
theorem y2ci (op : Int) : (y7 E).p 21 [.int .i64 op] = some ⟨.bool (purel op), [], true, [], []⟩ := by
  rw [y2ii]
  have bs : yr 0 (some 0) 1 11 [.int .i64 0] [(0, .int .i64 1), (1, .int .i64 2), (2, .int .i64 3), (3, .int .i64 4), (4, .int .i64 5), (5, .int .i64 6), (6, .int .i64 13), (7, .int .i64 15), (8, .int .i64 16), (9, .int .i64 18), (10, .int .i64 22)] [⟨0, .dead⟩] = some (.ls 0 1 1 0 11, [AI 1 y6g]) := by rfl
  have hz : fz [AI 1 y6g] y1a (.ls 0 1 1 0 11) = some ⟨slA (some y6g), y6g.all scal, [0]⟩ := ylm (α := Int) (k := 10) (id := 0) (g := 1) (L := y6g) rfl
  have c : y6 E (y7 E) 0 none true 42 [.int .i64 op, .ls 0 1 1 0 11] [AI 1 y6g] = some (.bool (purel op), [AI 1 y6g]) := by
    refine yw0 (fa := ⟨[.int .i64 op, slA (some y6g)], true && (y6g.all scal && true), [] ++ ([0] ++ [])⟩) rfl ?_ rfl (s_in op (some y6g) (by simp [y6g])) ⟨_, rfl, rfl⟩
    rw [ye, ye, hz, y5n, yx]
  simp only [y1xd, bs, yn, c, yy]
end Go.Vm
namespace Go.Vm
open Cel
theorem y20b (f : Fn) (hf : FnFit f) : (y7 E).p 119 [.agg (enc f)] = some ⟨.bool (decide ((lst f.code).length ≤ 90) && (decide ((lst f.regs).length ≤ 20) && (decide ((lst f.rows).length ≤ 12) && wf f))), [], true, [], []⟩ := by
  rw [y2q0]
  have n0 : newC 0 (some 0) (cellsOf (.agg (enc f))) [⟨0, .dead⟩] = some (.lp 0 1 0 0, [AB f]) := by simp
  have l0 : ∀ t : Heap, evLd true 5 (.lp 0 1 0 0) (AB f :: t) = some (.agg (enc f)) := fun t => by simp
  have l3 : ∀ t : Heap, evLd false 1 (.lp 0 1 0 3) (AB f :: t) = some (slA f.code) := fun t => by simp
  have l4 : ∀ t : Heap, evLd false 1 (.lp 0 1 0 4) (AB f :: t) = some (slA f.rows) := fun t => by simp
  have lr : ∀ t : Heap, evLd false 1 (.lp 0 1 0 0) (AB f :: t) = some (slA f.regs) := fun t => by simp
  have hck := y21k f hf
  have c29 : ∀ H, y6 E (y7 E) 0 none true 29 [.agg (enc f)] H = some (.int .i64 (if wf f then 0 else 80), H) := fun H => y15 rfl (fz_f f H) rfl hck ⟨_, rfl, rfl⟩
  by_cases h1 : ((lst f.code).length : Int) ≤ 90
  · have h1' : (lst f.code).length ≤ 90 := by omega
    by_cases h2 : ((lst f.regs).length : Int) ≤ 20
    · have h2' : (lst f.regs).length ≤ 20 := by omega
      by_cases h3 : ((lst f.rows).length : Int) ≤ 12
      · have h3' : (lst f.rows).length ≤ 12 := by omega
        cases hw : wf f with
        | true =>
          rw [hw] at c29
          simp only [yw8, n0, yn, y14, Nat.zero_add, y9, l3, lr, l4, y2q, y5i, h1, h1', h2, h2', h3, h3', decide_true, y55, ykt, y18, l0, c29, if_true, y2h, yy, Bool.true_and]
        | false =>
          rw [hw] at c29
          simp only [yw8, n0, yn, y14, Nat.zero_add, y9, l3, lr, l4, y2q, y5i, h1, h1', h2, h2', h3, h3', decide_true, y55, ykt, y18, l0, c29, Bool.false_eq_true, if_false, y2h, show decide ((80 : Int) = 0) = false from rfl, yy, Bool.true_and]
      · have h3' : ¬ (lst f.rows).length ≤ 12 := by omega
        simp only [yw8, n0, yn, y14, Nat.zero_add, y9, l3, lr, l4, y2q, y5i, h1, h1', h2, h2', h3, h3', decide_true, decide_false, y55, y79, yci, y18, y1e, yy, Bool.true_and, Bool.false_and]
    · have h2' : ¬ (lst f.regs).length ≤ 20 := by omega
      simp only [yw8, n0, yn, y14, Nat.zero_add, y9, l3, lr, y2q, y5i, h1, h1', h2, h2', decide_true, decide_false, y55, y79, yci, y18, y1e, yy, Bool.true_and, Bool.false_and]
  · have h1' : ¬ (lst f.code).length ≤ 90 := by omega
    simp only [yw8, n0, yn, y14, Nat.zero_add, y9, l3, y2q, y5i, h1, h1', decide_false, y79, yci, y1e, yy, Bool.false_and]
def y3r (f g : Fn) (i : Nat) : List Ins := (List.range (lst f.code).length).map fun q => if q < i then yd f q else yd g q
theorem yia (f g : Fn) (i : Nat) : (y3r f g i).length = (lst f.code).length := by simp [y3r]
theorem y29s (f g : Fn) : y3r f g (lst f.code).length = lst f.code := by
  refine List.ext_getElem (yia _ _ _) fun q h1 h2 => ?_
  simp [y3r, h2, yd, List.getD_eq_getElem?_getD]
theorem y2gl {f g : Fn} (h : (lst g.code).length = (lst f.code).length) : y3r f g 0 = lst g.code := by
  refine List.ext_getElem (by rw [yia, h]) fun q h1 h2 => ?_
  simp [y3r, h2, yd, List.getD_eq_getElem?_getD]
theorem y1dv {f g : Fn} {i : Nat} (h : i < (lst f.code).length) : y3r f g (i + 1) = (y3r f g i).set i (yd f i) := by
  refine List.ext_getElem (by simp [y3r]) fun q h1 h2 => ?_
  rw [List.getElem_set]
  by_cases e : i = q
  · subst e; simp [y3r]
  · rw [if_neg e]
    have : q < i + 1 ↔ q < i := by omega
    simp [y3r, this]
abbrev AHx (g : Fn) (n : Nat) : AO := ⟨1, .arr true false 5 [[slA g.regs, slA g.params, .int .i64 g.ret, .ls 3 1 9 0 n, slA g.rows]]⟩
abbrev ACo (L : List Ins) : AO := ⟨1, .arr false false 9 (L.map enc)⟩
section
variable {f g : Fn} (k : DeadOk f g) (wfF : wf f = true) (hx : ydj f) (hr : (lst f.rows).length ≤ 10000000000000) (hl : FnLen f)
include k wfF hx hr hl
theorem y206 (o4 o5 : AO) : y12g (.lp 0 1 0 0) (.lp 2 1 0 0) [AB f, AFn g, AHx g (lst f.code).length, ACo (y3r f g (lst f.code).length), o4, o5] = some ⟨.bool true, [], true, [], []⟩ := by
  rw [y29s]
  have l0 : ∀ t : Heap, evLd true 5 (.lp 0 1 0 0) (AB f :: t) = some (.agg (enc f)) := fun t => by simp
  have l2 : evLd true 5 (.lp 2 1 0 0) [AB f, AFn g, AHx g (lst f.code).length, ACo (lst f.code), o4, o5] = some (.agg [slA g.regs, slA g.params, .int .i64 g.ret, .ls 3 1 9 0 (lst f.code).length, slA g.rows]) := by simp [y63]
  have hS := y2na f (y7u g (lst f.code)) hl
  have es : y18i f (y7u g (lst f.code)) = true := by
    simp [y18i, y7u, k.swap.regs, k.swap.params, k.swap.ret, k.swap.rows, yd6]
  rw [es] at hS
  have z3 : fz [AB f, AFn g, AHx g (lst f.code).length, ACo (lst f.code), o4, o5] 11 (.ls 3 1 9 0 (lst f.code).length) = some ⟨slA (some (lst f.code)), (lst f.code).all scal, [3]⟩ := ylm (α := Ins) (k := 9) rfl
  have zi : fz [AB f, AFn g, AHx g (lst f.code).length, ACo (lst f.code), o4, o5] 11 (.int .i64 g.ret) = some ⟨.int .i64 g.ret, true, []⟩ := rfl
  obtain ⟨fr, ids, hz⟩ : ∃ fr ids, fz [AB f, AFn g, AHx g (lst f.code).length, ACo (lst f.code), o4, o5] y1a (.agg [slA g.regs, slA g.params, .int .i64 g.ret, .ls 3 1 9 0 (lst f.code).length, slA g.rows]) = some ⟨.agg (enc (y7u g (lst f.code))), fr, ids⟩ := by
    refine ⟨_, _, (ydn _ 11 _).trans (by
      simp only [ye, y2e7, z3, zi, yx]
      rfl)⟩
  have c : y6 E (y7 E) 0 none true 14 [.agg (enc f), .agg [slA g.regs, slA g.params, .int .i64 g.ret, .ls 3 1 9 0 (lst f.code).length, slA g.rows]] [AB f, AFn g, AHx g (lst f.code).length, ACo (lst f.code), o4, o5] = some (.bool true, [AB f, AFn g, AHx g (lst f.code).length, ACo (lst f.code), o4, o5]) := by
    refine yw0 (fa := ⟨[.agg (enc f), .agg (enc (y7u g (lst f.code)))], scal f && (fr && true), [] ++ (ids ++ [])⟩) rfl ?_ rfl hS ⟨_, rfl, rfl⟩
    rw [ye, ye, hz, y5y, yx]
  simp only [y12g, l0, y9, l2, c, yn, yy]
theorem y1m6 : ∀ (d i : Nat) (o4 o5 : AO), i + d = (lst f.code).length →
    yfd (.lp 0 1 0 0) (.lp 1 1 0 0) (.lp 2 1 0 0) (.int .i64 i) [AB f, AFn g, AHx g (lst f.code).length, ACo (y3r f g i), o4, o5] = some ⟨.bool true, [], true, [], []⟩ := by
  have w := ypn wfF
  have wg := ypn k.wf
  have hn := w.n2
  have l0 : ∀ t : Heap, evLd true 5 (.lp 0 1 0 0) (AB f :: t) = some (.agg (enc f)) := fun t => by simp
  have l3 : ∀ t : Heap, evLd false 1 (.lp 0 1 0 3) (AB f :: t) = some (slA f.code) := fun t => by simp
  intro d
  induction d with
  | zero =>
    intro i o4 o5 hi
    have e : i = (lst f.code).length := by omega
    have hc : ¬ (i : Int) < ((lst f.code).length : Int) := by omega
    rw [ymg]
    simp only [yig, y14, Nat.zero_add, y9, l3, y2q, yj, hc, decide_false, y39]
    rw [e]
    exact y206 k wfF hx hr hl o4 o5
  | succ d ih =>
    intro i o4 o5 hi
    have hlt : i < (lst f.code).length := by omega
    have hltg : i < (lst g.code).length := by rw [k.swap.len]; exact hlt
    have hc : (i : Int) < ((lst f.code).length : Int) := by omega
    have hw := y1f hlt (by omega)
    have kx := y6k (o := f.code) (i := i) (y4a hlt) .i64
    have ky := y6k (o := g.code) (i := i) (y4a hltg) .i64
    have lx : ∀ (t : Heap) (x : Ins), evLd true 9 (.rp (enc x)) t = some (.agg (enc x)) := fun t x => by simp
    have len2 := yia f g i
    have hs2 := y1dv (g := g) hlt
    have l13 : ∀ o3 o4 o5, evLd false 1 (.lp 1 1 0 3) [AB f, AFn g, AHx g (lst f.code).length, o3, o4, o5] = some (slA g.code) := fun _ _ _ => by simp
    have l1 : ∀ o3 o4 o5, evLd true 5 (.lp 1 1 0 0) [AB f, AFn g, AHx g (lst f.code).length, o3, o4, o5] = some (.agg (enc g)) := fun _ _ _ => by simp
    have l23 : ∀ o3 o4 o5, evLd false 1 (.lp 2 1 0 3) [AB f, AFn g, AHx g (lst f.code).length, o3, o4, o5] = some (.ls 3 1 9 0 (lst f.code).length) := fun _ _ _ => by simp
    have n4 : newC 0 (some 4) [.int .i64 0, .int .i64 0, .int .i64 0, .int .i64 0, .int .i64 0, .int .i64 0, .int .i64 0, .str [], .nils] [AB f, AFn g, AHx g (lst f.code).length, ACo (y3r f g i), o4, o5] = some (.lp 4 (o4.gen + 1) 0 0, [AB f, AFn g, AHx g (lst f.code).length, ACo (y3r f g i), ⟨o4.gen + 1, .arr true false 9 [[.int .i64 0, .int .i64 0, .int .i64 0, .int .i64 0, .int .i64 0, .int .i64 0, .int .i64 0, .str [], .nils]]⟩, o5]) := by simp
    have s4 : evSt 9 (.lp 4 (o4.gen + 1) 0 0) (.agg (enc (yd f i))) [AB f, AFn g, AHx g (lst f.code).length, ACo (y3r f g i), ⟨o4.gen + 1, .arr true false 9 [[.int .i64 0, .int .i64 0, .int .i64 0, .int .i64 0, .int .i64 0, .int .i64 0, .int .i64 0, .str [], .nils]]⟩, o5] = some (.tup [], [AB f, AFn g, AHx g (lst f.code).length, ACo (y3r f g i), AX (o4.gen + 1) (yd f i), o5]) := by simp [y6o, y12]
    have n5 : ∀ a4, newC 0 (some 5) [.int .i64 0, .int .i64 0, .int .i64 0, .int .i64 0, .int .i64 0, .int .i64 0, .int .i64 0, .str [], .nils] [AB f, AFn g, AHx g (lst f.code).length, ACo (y3r f g i), a4, o5] = some (.lp 5 (o5.gen + 1) 0 0, [AB f, AFn g, AHx g (lst f.code).length, ACo (y3r f g i), a4, ⟨o5.gen + 1, .arr true false 9 [[.int .i64 0, .int .i64 0, .int .i64 0, .int .i64 0, .int .i64 0, .int .i64 0, .int .i64 0, .str [], .nils]]⟩]) := fun _ => by simp
    have s5 : ∀ a4, evSt 9 (.lp 5 (o5.gen + 1) 0 0) (.agg (enc (yd g i))) [AB f, AFn g, AHx g (lst f.code).length, ACo (y3r f g i), a4, ⟨o5.gen + 1, .arr true false 9 [[.int .i64 0, .int .i64 0, .int .i64 0, .int .i64 0, .int .i64 0, .int .i64 0, .int .i64 0, .str [], .nils]]⟩] = some (.tup [], [AB f, AFn g, AHx g (lst f.code).length, ACo (y3r f g i), a4, AX (o5.gen + 1) (yd g i)]) := fun _ => by simp [y6o, y12]
    have go5 : yig (.lp 0 1 0 0) (.lp 1 1 0 0) (.lp 2 1 0 0) (.int .i64 i) [AB f, AFn g, AHx g (lst f.code).length, ACo (y3r f g i), o4, o5] =
        ykn (.lp 0 1 0 0) (.lp 1 1 0 0) (.lp 2 1 0 0) (.int .i64 i) (.lp 4 (o4.gen + 1) 0 0) (.lp 5 (o5.gen + 1) 0 0) [AB f, AFn g, AHx g (lst f.code).length, ACo (y3r f g i), AX (o4.gen + 1) (yd f i), AX (o5.gen + 1) (yd g i)] := by
      simp only [yig, y14, Nat.zero_add, y9, l3, y2q, yj, hc, decide_true, y2i, y1qz, kx, lx, n4, yn, s4, y1ke, l13, ky, n5, s5]
    rw [ymg, go5]
    generalize o4.gen + 1 = g4
    generalize o5.gen + 1 = g5
    have lop : evLd false 1 (.lp 5 g5 0 0) [AB f, AFn g, AHx g (lst f.code).length, ACo (y3r f g i), AX g4 (yd f i), AX g5 (yd g i)] = some (.int .i64 (yd g i).op) := by simp
    have lfo : evLd false 1 (.lp 4 g4 0 0) [AB f, AFn g, AHx g (lst f.code).length, ACo (y3r f g i), AX g4 (yd f i), AX g5 (yd g i)] = some (.int .i64 (yd f i).op) := by simp
    have lfd : evLd false 1 (.lp 4 g4 0 1) [AB f, AFn g, AHx g (lst f.code).length, ACo (y3r f g i), AX g4 (yd f i), AX g5 (yd g i)] = some (.int .i64 (yd f i).d) := by simp
    have lfx : evLd true 9 (.lp 4 g4 0 0) [AB f, AFn g, AHx g (lst f.code).length, ACo (y3r f g i), AX g4 (yd f i), AX g5 (yd g i)] = some (.agg (enc (yd f i))) := by simp
    have cP : ∀ H, y6 E (y7 E) 0 none true 21 [.int .i64 (yd f i).op] H = some (.bool (purel (yd f i).op), H) := fun H => y15 (fa := ⟨[.int .i64 (yd f i).op], true, []⟩) rfl rfl rfl (y2ci _) ⟨_, rfl, rfl⟩
    have up : ∀ (L : List Ins) (a4 a5 : AO), L = y3r f g (i + 1) → yth (.lp 0 1 0 0) (.lp 1 1 0 0) (.lp 2 1 0 0) (.int .i64 i) [AB f, AFn g, AHx g (lst f.code).length, ACo L, a4, a5] = some ⟨.bool true, [], true, [], []⟩ := by
      intro L a4 a5 hL
      subst hL
      have := ih (i + 1) a4 a5 (by omega)
      simp only [yth, y1s, y9, hw]
      exact this
    -- what there is at the place
    have ea : yd g i = yd f i → y3r f g i = y3r f g (i + 1) := by
      intro e
      rw [hs2]
      refine (List.ext_getElem (by rw [List.length_set]) fun q h1 h2 => ?_).symm
      rw [List.getElem_set]
      by_cases e2 : i = q
      · subst e2
        rw [if_pos rfl]
        simp [y3r, e]
      · rw [if_neg e2]
    have ix3 := y281 hlt 3 1 9 .i64
    have st3 := yfa (α := Ins) (H := [AB f, AFn g, AHx g (lst f.code).length, ACo (y3r f g i), AX g4 (yd f i), AX g5 (yd g i)]) (id := 3) (g := 1) (i := i) (L := y3r f g i) (v := .agg (enc (yd f i))) (y := yd f i) rfl (by rw [len2]; exact hlt) rfl
    rw [← hs2] at st3
    simp only [y2l8, List.set_cons_succ, List.set_cons_zero] at st3
    have hA : ∀ H, y6 E (y7 E) 0 none true 90 [.agg (enc f), .int .i64 i, .int .i64 (yd f i).d] H = some (.bool (aftR f i (yd f i).d), H) := fun H => y15 rfl (y26j f i _ H) rfl (y0n f w hx hr i _) ⟨_, rfl, rfl⟩
    have hAg : ∀ H, y6 E (y7 E) 0 none true 90 [.agg (enc g), .int .i64 i, .int .i64 (yd f i).d] H = some (.bool (aftR g i (yd f i).d), H) := fun H => y15 rfl (y26j g i _ H) rfl (y0n g wg (k.args hx) (by rw [k.swap.rows]; exact hr) i _) ⟨_, rfl, rfl⟩
    cases hp : purel (yd f i).op with
    | false =>
      rw [hp] at cP
      have e : yd g i = yd f i := by
        rcases k.at_ i hlt with h | h
        · exact h
        · rw [h.2] at hp; cases hp
      have fin := up (y3r f g i) (AX g4 (yd f i)) (AX g5 (yd g i)) (ea e)
      by_cases h33 : (yd g i).op = 33
      · simp only [ykn, y14, Nat.zero_add, y9, lop, y2h, h33, decide_true, y55, ykt, lfo, cP, yn, y18, y39, yqd, y79, yci, yd8, y26b, y1e, fin]
      · simp only [ykn, y14, Nat.zero_add, y9, lop, y2h, h33, decide_false, y79, yci, yd8, y26b, y1e, y39, yqd, lfo, cP, yn, fin]
    | true =>
      rw [hp] at cP
      rcases k.at_ i hlt with e | e
      · have fin := up (y3r f g i) (AX g4 (yd f i)) (AX g5 (yd g i)) (ea e)
        have h33 : ¬ (yd g i).op = 33 := by rw [e]; exact (y7p hp).2.2.2.2.1
        have hd : y2p g i = false := by
          have := List.any_eq_false.1 k.left i (List.mem_range.2 hltg)
          simpa using this
        have hag : aftR g i (yd f i).d = true := by
          rw [y2p, e, hp] at hd
          simpa using hd
        have haf := k.aft _ _ hag
        rw [haf] at hA
        rw [hag] at hAg
        simp only [ykn, y14, Nat.zero_add, y9, lop, y2h, h33, decide_false, y79, yci, y1e, y39, yqd, lfo, cP, yn, y55, ykt, l0, lfd, hA, y3w, Bool.not_true, yf1, y2k7, l1, hAg, y18, fin]
      · have h33 : (yd g i).op = 33 := by rw [e.1]; rfl
        have fin := up (y3r f g (i + 1)) (AX g4 (yd f i)) (AX g5 (yd g i)) rfl
        simp only [ykn, y14, Nat.zero_add, y9, lop, y2h, h33, decide_true, y55, ykt, lfo, cP, yn, y18, y2i, l23, lfx, ix3, st3, fin]
theorem y2mg : (y7 E).p 120 [.agg (enc f), .agg (enc g)] = some ⟨.bool true, [], true, [], []⟩ := by
  have w := ypn wfF
  have hn := w.n2
  have hn1 := w.n1
  rw [y2nk]
  have n0 : newC 0 (some 0) (cellsOf (.agg (enc f))) [⟨0, .dead⟩, ⟨0, .dead⟩, ⟨0, .dead⟩, ⟨0, .dead⟩, ⟨0, .dead⟩, ⟨0, .dead⟩] = some (.lp 0 1 0 0, [AB f, D0, D0, D0, D0, D0]) := by simp
  have n1 : newC 0 (some 1) (cellsOf (.agg (enc g))) [AB f, D0, D0, D0, D0, D0] = some (.lp 1 1 0 0, [AB f, AFn g, D0, D0, D0, D0]) := by simp
  have n2 : newC 0 (some 2) [.nils, .nils, .int .i64 0, .nils, .nils] [AB f, AFn g, D0, D0, D0, D0] = some (.lp 2 1 0 0, [AB f, AFn g, ⟨1, .arr true false 5 [[.nils, .nils, .int .i64 0, .nils, .nils]]⟩, D0, D0, D0]) := by simp
  have s2 : evSt 5 (.lp 2 1 0 0) (.agg (enc g)) [AB f, AFn g, ⟨1, .arr true false 5 [[.nils, .nils, .int .i64 0, .nils, .nils]]⟩, D0, D0, D0] = some (.tup [], [AB f, AFn g, AFn g, D0, D0, D0]) := by simp [y6o, y12]
  have l3 : ∀ t : Heap, evLd false 1 (.lp 0 1 0 3) (AB f :: t) = some (slA f.code) := fun t => by simp
  have l13 : ∀ o2 o3 o4 o5, evLd false 1 (.lp 1 1 0 3) [AB f, AFn g, o2, o3, o4, o5] = some (slA g.code) := fun _ _ _ _ => by simp
  have l1 : ∀ o2 o3 o4 o5, evLd true 5 (.lp 1 1 0 0) [AB f, AFn g, o2, o3, o4, o5] = some (.agg (enc g)) := fun _ _ _ _ => by simp
  have hgl := k.swap.len
  obtain ⟨L, hL⟩ : ∃ L, g.code = some L := by
    cases hc : g.code with
    | none => rw [hc] at hgl; simp at hgl; omega
    | some L => exact ⟨L, rfl⟩
  have ap : y2b 0 (some 3) 9 96 .nils (slA g.code) [AB f, AFn g, AFn g, D0, D0, D0] = some (.ls 3 1 9 0 (lst f.code).length, [AB f, AFn g, AFn g, ACo (lst g.code), D0, D0]) := by
    have hm : (lst f.code).length * 96 ≤ 281474976710656 := Nat.le_trans (Nat.mul_le_mul_right 96 hn) (by decide)
    have hne : ((lst g.code).map (enc (α := Ins))).isEmpty = false := by
      cases hq : lst g.code with
      | nil => rw [hq] at hgl; simp at hgl; omega
      | cons a l => rfl
    unfold y2b
    rw [y1dc]
    simp only [hne, Bool.false_eq_true, if_false, List.length_map, hgl, hm, y3y, place]
    simp [hm]
  have s3 : evSt 1 (.lp 2 1 0 3) (.ls 3 1 9 0 (lst f.code).length) [AB f, AFn g, AFn g, ACo (lst g.code), D0, D0] = some (.tup [], [AB f, AFn g, AHx g (lst f.code).length, ACo (lst g.code), D0, D0]) := by
    simp [y6o, y12, y2lv]
  have hl2 := y1m6 k wfF hx hr hl _ 0 D0 D0 (Nat.zero_add _)
  rw [y2gl hgl] at hl2
  have e12 : ywo (.lp 0 1 0 0) (.lp 1 1 0 0) (.lp 2 1 0 0) [AB f, AFn g, AHx g (lst f.code).length, ACo (lst g.code), D0, D0] = yfd (.lp 0 1 0 0) (.lp 1 1 0 0) (.lp 2 1 0 0) (.int .i64 (0 : Nat)) [AB f, AFn g, AHx g (lst f.code).length, ACo (lst g.code), D0, D0] := rfl
  simp only [yxy, n0, yn, n1, yx1, y14, Nat.zero_add, y9, l3, l13, y2q, hgl, y47, ne_eq, not_true_eq_false, decide_false, y39, ywu, l1, n2, s2, yxx, ap, s3, e12, hl2]
end
theorem yvk (f : Fn) (hf : FnIn f) : (y7 E).p 115 [.agg (enc f)] = some ⟨.bool true, [], true, [], []⟩ := by
  rw [y2p0]
  have n0 : newC 0 (some 0) (cellsOf (.agg (enc f))) [⟨0, .dead⟩] = some (.lp 0 1 0 0, [AB f]) := by simp
  have l0 : ∀ t : Heap, evLd true 5 (.lp 0 1 0 0) (AB f :: t) = some (.agg (enc f)) := fun t => by simp
  have ch : ∀ H : Heap, y6 E (y7 E) 0 none true 117 [] H = some (.bool true, H) := fun H => y15 (fa := ⟨[], true, []⟩) rfl rfl rfl y2b3 ⟨_, rfl, rfl⟩
  have hg := y20b f hf.fit3
  have cg : ∀ H, y6 E (y7 E) 0 none true 119 [.agg (enc f)] H = some (.bool _, H) := fun H => y15 rfl (fz_f f H) rfl hg ⟨_, rfl, rfl⟩
  have fg : ∀ H, y3i E (y7 E) 0 none true 119 [.agg (enc f)] H = some ([], []) := fun H => ygu rfl (fz_f f H) rfl hg
  cases hb : (decide ((lst f.code).length ≤ 90) && (decide ((lst f.regs).length ≤ 20) && (decide ((lst f.rows).length ≤ 12) && wf f))) with
  | false =>
    rw [hb] at cg
    simp only [y256, n0, yn, y25p, ch, y3w, Bool.not_true, y9, y39, y230, l0, fg, y64, cg, Bool.not_false, y2kd, yp4, y2q9, y18, yy]
    exact yk0 rfl _
  | true =>
    rw [hb] at cg
    simp only [Bool.and_eq_true, decide_eq_true_eq] at hb
    obtain ⟨h1, h2, h3, hw⟩ := hb
    have hsm := hf.sm (by omega) (by omega)
    obtain ⟨_, d2⟩ := y2fb f hf.fit3 hsm (by omega)
    obtain ⟨g, hd, hg⟩ := d2 hw
    have k := hd.ok hw
    have hB := y2mg k hw hsm.args (by omega) ⟨by have := hsm.regs; omega, by have := hsm.params; omega, by omega, by omega, fun x hx => by have := hsm.args x hx; omega⟩
    have cD : ∀ H, y6 E (y7 E) 0 none true 118 [.agg (enc f)] H = some (.agg (enc g), H) := fun H => y15 rfl (fz_f f H) rfl hg (y1c7 g)
    have fD : ∀ H, y3i E (y7 E) 0 none true 118 [.agg (enc f)] H = some ([], []) := fun H => ygu rfl (fz_f f H) rfl hg
    have cB : ∀ H, y6 E (y7 E) 0 none true 120 [.agg (enc f), .agg (enc g)] H = some (.bool true, H) := fun H => y15 rfl (y2ne f g H) rfl hB ⟨_, rfl, rfl⟩
    have fB : ∀ H, y3i E (y7 E) 0 none true 120 [.agg (enc f), .agg (enc g)] H = some ([], []) := fun H => ygu rfl (y2ne f g H) rfl hB
    simp only [y256, n0, yn, y25p, ch, y3w, Bool.not_true, y9, y39, y230, l0, fg, y64, cg, y2it, yf1, y2k7, fD, cD, fB, cB, y1e, yy]
    exact yk0 rfl _
end Go.Vm
