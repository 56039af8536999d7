/- The value machine: copying; numbers, texts, comparisons, parts of values, maps, against the model. -/
import Derived.Test.YtfmmcafccijnhaaVmH
namespace Go.Vm

variable {P : Program} {nm : Nat → Option Nat} {w : World} {F : Nat → Prop} {m : MapT} {h : Heap}

theorem RRep.one {G : List Nat} {es : Nat} {cells : Array Value} {ys : List (List AV)} (hes : 0 < es) (hr : RRep nm w F m G es cells ys) : ∀ z ∈ cells.toList, z.oneCell' = true := by
  intro z hz
  obtain ⟨k, hk⟩ := List.getElem?_of_mem hz
  have hkl : k < ys.length * es := by rw [← hr.1]; have := (List.getElem?_eq_some_iff.1 hk).1; simpa using this
  have hi : k / es < ys.length := (Nat.div_lt_iff_lt_mul hes).2 hkl
  obtain ⟨b1, b2⟩ := hr.2 (k / es) _ (List.getElem?_eq_getElem hi)
  have hj : k % es < es := Nat.mod_lt _ hes
  obtain ⟨c1, x, c2, c3⟩ := b2 (k % es) _ (List.getElem?_eq_getElem (by omega))
  rw [show k / es * es + k % es = k by rw [Nat.mul_comm]; exact Nat.div_add_mod k es] at c2
  have : z = x := by
    rw [Array.getElem?_toList, c2] at hk
    injection hk with hk
    exact hk.symm
  rw [this]
  exact (c3.leaf c1).1

theorem evCpy_sound (I : Inv nm w F m h) {t u e es : Nat} (hu : P.underlying t = some (.slice e)) (hs : sizeIs P e es = true) (hes : 0 < es) {ty : TypeId} {ts : Array TypeId} (hts : ts[0]? = some t) {v y : Value} {va ya : AV} {x : AV × Heap}
    (hv : Rep nm w F m (gens h) v va) (hy : Rep nm w F m (gens h) y ya) (hx : evCpy es va ya h = some x) :
    Does nm w F m h ((do pure (Next.value (← Builtin.copy_ ts ty #[v, y])) : Sem Next).run P w) x := by
  unfold evCpy at hx
  split at hx
  · cases hx
  · rename_i ys hys
    obtain ⟨hlen, hfirst⟩ := rowsOf_sound (P := P) I hy hys
    split at hx
    · rw [hv.nils_inv]
      injection hx with hx
      subst hx
      obtain ⟨new, hnew, hnr⟩ := hfirst 0 (Nat.zero_le _)
      have hrun : (Builtin.copy_ ts ty #[.slice none 0 0, y]).run P w = .ok (.int .i64 0) w := by
        unfold Builtin.copy_
        simp only [hts, List.getElem?_toArray, List.getElem?_cons_zero, List.getElem?_cons_succ, Sem.run_bind, run_underlying hu, Result.andThen_ok, hlen, run_sizeOf hs]
        have : Nat.min ys.length 0 = 0 := Nat.min_zero _
        rw [this, hnew]
        simp [goInt]
      rw [run_v hrun]
      exact Does.same I rfl (.pure (.int _ _))
    · rename_i id g esL off len
      split at hx
      · rename_i fz es' rows hrows
        split at hx
        · rename_i hc
          obtain ⟨hc1, hc2, hc3, hc4⟩ := hc
          injection hx with hx
          subst hx
          subst hc1; subst hc2; subst hc3
          obtain ⟨loc, hm, he, hcap, cs, tyb, fr, hb, hfr, hsz, hcell⟩ := I.rows hrows
          obtain ⟨bx, ho⟩ := rowsAt_spec hrows
          obtain ⟨a, cap, rfl, hab, has, _, hao, hac, hlc⟩ := hv.ls_at hm
          have hae : a = ⟨loc.blk, a.off, none⟩ := by rw [← hab]; exact addr_eta has
          have hlt : loc.blk < w.heap.size := (Array.getElem?_eq_some_iff.1 hb).1
          generalize hn : min ys.length len = n
          have hny : n ≤ ys.length := by omega
          have hnl : n ≤ len := by omega
          obtain ⟨new, hnew, hnr⟩ := hfirst n hny
          have hnrl : (ys.take n).length = n := by simp; omega
          by_cases hn0 : n = 0
          · -- nothing is copied
            have hnew0 : new = #[] := by
              apply Array.eq_empty_of_size_eq_zero
              rw [hnr.1, hnrl, hn0, Nat.zero_mul]
            have hrun : (Builtin.copy_ ts ty #[.slice (some a) len cap, y]).run P w = .ok (.int .i64 (n : Nat)) w := by
              unfold Builtin.copy_
              simp only [hts, List.getElem?_toArray, List.getElem?_cons_zero, List.getElem?_cons_succ, Sem.run_bind, run_underlying hu, Result.andThen_ok, hlen, run_sizeOf hs]
              have : Nat.min ys.length len = n := hn
              rw [this, hnew]
              simp [goInt, hnew0, storeCells]
            rw [run_v hrun]
            have hsame : setRows h id (rows.take off ++ ys.take n ++ rows.drop (off + n)) = h := by
              rw [hn0]
              simp only [List.take_zero, List.append_nil, Nat.add_zero, List.take_append_drop]
              unfold setRows
              rw [ho]
              simp only
              apply List.ext_getElem?
              intro k
              rw [List.getElem?_set]
              split
              · rename_i e; subst e
                rw [ho]
                have := (List.getElem?_eq_some_iff.1 ho).1
                simp [this]
              · rfl
            rw [hsame]
            exact Does.same I rfl (.pure (.int _ _))
          · have hoff : a.off = loc.base + off * es' := by rw [← he]; exact hao (by omega)
            have hseg : loc.base + off * es' + n * es' ≤ cs.size := by
              have : (off + n) * es' ≤ loc.cap * es' := Nat.mul_le_mul_right _ (by omega)
              rw [Nat.add_mul] at this
              omega
            have hnsz : new.toList.length = n * es' := by rw [Array.length_toList, hnr.1, hnrl]
            have hrunS := run_storeCells_putObj (P := P) new.toList (loc.base + off * es') 0 cs w hb hfr (by omega) (hnr.one hes)
            have hrun : (Builtin.copy_ ts ty #[.slice (some a) len cap, y]).run P w = .ok (.int .i64 (n : Nat)) (putObj w loc.blk (.cells (spliceA cs (loc.base + off * es') new.toList) tyb fr)) := by
              unfold Builtin.copy_
              simp only [hts, List.getElem?_toArray, List.getElem?_cons_zero, List.getElem?_cons_succ, Sem.run_bind, run_underlying hu, Result.andThen_ok, hlen, run_sizeOf hs]
              have : Nat.min ys.length len = n := hn
              rw [this, hnew]
              rw [hae]
              simp only [Result.andThen_ok, hoff, Sem.run_bind, hrunS, Nat.add_zero, Sem.run_pure, goInt]
            rw [run_v hrun]
            have hst := store_step I ho hm hb (vs := new.toList) (o := loc.base + off * es') (rows' := rows.take off ++ ys.take n ++ rows.drop (off + n)) (by omega) (by simp; omega) (fun i row hi => by
              rw [List.getElem?_append] at hi
              have hl1 : (rows.take off ++ ys.take n).length = off + n := by simp; omega
              rw [hl1] at hi
              have hrowl : ∀ (k : Nat) (row : List AV), rows[k]? = some row → (k < off ∨ off + n ≤ k) → row.length = es' ∧ ∀ (j : Nat) (l : AV), row[j]? = some l →
                  leaf1 l = true ∧ ∃ v, (spliceA cs (loc.base + off * es') new.toList)[loc.base + (k * es' + j)]? = some v ∧ Rep nm w F m (gens h) v l := by
                intro k row hk hko
                obtain ⟨b1, b2⟩ := hcell k row hk
                refine ⟨b1, fun j l hj => ?_⟩
                obtain ⟨c1, x, c2, _, c3⟩ := b2 j l hj
                have hjl : j < es' := by rw [← b1]; exact (List.getElem?_eq_some_iff.1 hj).1
                refine ⟨c1, x, ?_, c3⟩
                rw [spliceA_get (by omega), hnsz]
                rcases hko with hko | hko
                · have := row_lt (es := es') hko hjl
                  rw [if_pos (by omega)]; exact c2
                · have : (off + n) * es' ≤ k * es' := Nat.mul_le_mul_right _ hko
                  rw [Nat.add_mul] at this
                  rw [if_neg (by omega), if_neg (by omega)]; exact c2
              split at hi
              · rename_i h1
                rw [List.getElem?_append] at hi
                have hl2 : (rows.take off).length = off := by simp; omega
                rw [hl2] at hi
                split at hi
                · rename_i h2
                  rw [List.getElem?_take, if_pos h2] at hi
                  exact hrowl i row hi (.inl h2)
                · rename_i h2
                  obtain ⟨b1, b2⟩ := hnr.2 _ row hi
                  refine ⟨b1, fun j l hj => ?_⟩
                  obtain ⟨c1, x, c2, c3⟩ := b2 j l hj
                  have hjl : j < es' := by rw [← b1]; exact (List.getElem?_eq_some_iff.1 hj).1
                  refine ⟨c1, x, ?_, c3⟩
                  have hmul : i * es' = off * es' + (i - off) * es' := by rw [← Nat.add_mul]; congr 1; omega
                  have := row_lt (es := es') (i := i - off) (n := n) (by omega) hjl
                  rw [spliceA_get (by omega), hnsz, if_neg (by omega), if_pos (by omega), show loc.base + (i * es' + j) - (loc.base + off * es') = (i - off) * es' + j by omega]
                  simpa using c2
              · rename_i h1
                rw [List.getElem?_drop] at hi
                rw [show off + n + (i - (off + n)) = i by omega] at hi
                exact hrowl i row hi (.inr (by omega)))
            exact ⟨_, _, F, m, .inl rfl, hst.1, hst.2, .pure (.int _ _)⟩
        · cases hx
      · cases hx
    · cases hx

/-! Numbers, texts, bools. -/

theorem byteArray_toList (b : ByteArray) : b.toList = b.data.toList := by
  have key : ∀ (n i : Nat) (r : List UInt8), b.size - i = n → ByteArray.toList.loop b i r = r.reverse ++ b.data.toList.drop i := by
    intro n
    induction n with
    | zero =>
      intro i r hn
      unfold ByteArray.toList.loop
      rw [if_neg (by omega)]
      rw [List.drop_of_length_le (by simp; have : b.size = b.data.size := rfl; omega)]
      simp
    | succ n ih =>
      intro i r hn
      unfold ByteArray.toList.loop
      have hlt : i < b.size := by omega
      rw [if_pos hlt, ih (i + 1) _ (by omega)]
      have hlt2 : i < b.data.toList.length := by simpa using hlt
      rw [List.reverse_cons, List.append_assoc, List.drop_eq_getElem_cons hlt2]
      congr 1
      simp only [List.singleton_append, List.cons.injEq, and_true]
      have : b.get! i = b.data.toList[i] := by
        obtain ⟨d⟩ := b
        have hd : i < d.size := hlt
        show d[i]! = d.toList[i]
        rw [getElem!_pos d i hd]
        simp
      exact this
  have := key b.size 0 [] rfl
  unfold ByteArray.toList
  rw [this]
  simp

theorem bytesLess_eq : ∀ a b : List UInt8, Op.bytesLess a b = bytesLt a b
  | a, [] => by cases a <;> rfl
  | [], _ :: _ => rfl
  | a :: x, b :: y => by simp [Op.bytesLess, bytesLt, bytesLess_eq x y]

theorem evBin_sound {op : BinOp} {t : Nat} {ox oy : Operand} {v u : Value} {va ua r : AV} {G : List Nat} (hv : Rep nm w F m G v va) (hu : Rep nm w F m G u ua) (hr : evBin op va ua = some r) :
    ∃ x, (do eqGuard op t ox oy v u; binOp op t v u : Sem Value).run P w = .ok x w ∧ Rep nm w F m G x r := by
  unfold evBin at hr
  split at hr
  · rename_i k a k' b
    have e1 := hv.int_inv
    have e2 := hu.int_inv
    subst e1; subst e2
    have hg : (eqGuard op t ox oy (.int k a) (.int k' b)).run P w = .ok () w := by
      unfold eqGuard
      cases op <;> simp
    simp only [Sem.run_bind, hg, Result.andThen_ok]
    by_cases hsh : isShift op = true
    · rw [if_pos hsh] at hr
      unfold shiftInt at hr
      split at hr
      · cases hr
      · rename_i hb0
        cases op <;> first | cases hsh | skip
        · injection hr with hr
          subst hr
          exact ⟨_, by simp [binOp, Op.shift, hb0], .pure (.int _ _)⟩
        · injection hr with hr
          subst hr
          exact ⟨_, by simp [binOp, Op.shift, hb0], .pure (.int _ _)⟩
    · rw [if_neg hsh] at hr
      split at hr
      · rename_i hk
        subst hk
        cases op <;> simp only [binInt] at hr <;> first
          | (exact absurd rfl hsh)
          | (injection hr with hr; subst hr; exact ⟨_, by simp [binOp, Op.intArith, Op.intBits, Op.intCmp], .pure (.int _ _)⟩)
          | (injection hr with hr; subst hr; exact ⟨_, by simp [binOp, Op.intArith, Op.intBits, Op.intCmp], .pure (.bool _)⟩)
          | (split at hr
             · cases hr
             · rename_i hz
               injection hr with hr
               subst hr
               exact ⟨_, by simp [binOp, Op.intDiv, hz], .pure (.int _ _)⟩)
      · cases hr
  · rename_i a b
    obtain ⟨x, rfl, hx⟩ := hv.str_inv
    obtain ⟨y, rfl, hy⟩ := hu.str_inv
    have hg : (eqGuard op t ox oy (.string x) (.string y)).run P w = .ok () w := by
      unfold eqGuard
      cases op <;> simp
    simp only [Sem.run_bind, hg, Result.andThen_ok]
    have hxl : x.toList = a := by rw [byteArray_toList, hx]
    have hyl : y.toList = b := by rw [byteArray_toList, hy]
    have hxs : x.size = a.length := by rw [← hx]; simp
    have hys : y.size = b.length := by rw [← hy]; simp
    cases op <;> simp only [binStr] at hr <;> first
      | (injection hr with hr; subst hr; exact ⟨_, by simp only [binOp, Op.stringOp, hxl, hyl, bytesLess_eq]; rfl, .pure (.bool _)⟩)
      | (split at hr
         · rename_i hlen
           injection hr with hr
           subst hr
           refine ⟨.string (x ++ y), ?_, ?_⟩
           · simp only [binOp, Op.stringOp]
             rw [if_neg (by rw [hxs, hys]; simp [IntKind.max, IntKind.bits, IntKind.signed]; omega)]
             rfl
           · have := PRep.str (nm := nm) (w := w) (F := F) (x ++ y)
             rw [show (x ++ y).data.toList = a ++ b by rw [ByteArray.data_append]; simp [hx, hy]] at this
             exact .pure this
         · cases hr)
      | cases hr
  · cases hr

end Go.Vm
