/- The value machine: appending and copying, against the model. -/
import Derived.Test.YtfmmcafccijnhaaVmG
namespace Go.Vm

variable {P : Program} {nm : Nat → Option Nat} {w : World} {F : Nat → Prop} {m : MapT} {h : Heap}

/-- Loading whole rows. -/
theorem run_loadRows {b o es n : Nat} {rows : List (List AV)} {G : List Nat} (hn : n ≤ rows.length) 
    (hc : ∀ (i : Nat) (row : List AV), rows[i]? = some row → row.length = es ∧ ∀ (j : Nat) (l : AV), row[j]? = some l → leaf1 l = true ∧ ∃ v, w.cell? ⟨b, o + (i * es + j), none⟩ = some v ∧ Rep nm w F m G v l) :
    ∃ cells : Array Value, (loadCells ⟨b, o, none⟩ (n * es)).run P w = .ok cells w ∧ RRep nm w F m G es cells (rows.take n) := by
  have hx : ∀ k, k < n * es → ∃ v, w.cell? ⟨b, o + k, none⟩ = some v := fun k hk => by
    have hes : 0 < es := Nat.pos_of_ne_zero fun e => by subst e; omega
    have hi : k / es < n := (Nat.div_lt_iff_lt_mul hes).2 hk
    have hrow : rows[k / es]? = some (rows[k / es]'(by omega)) := List.getElem?_eq_getElem _
    obtain ⟨hl, hcell⟩ := hc _ _ hrow
    have hj : k % es < es := Nat.mod_lt _ hes
    obtain ⟨_, v, hv, _⟩ := hcell (k % es) _ (List.getElem?_eq_getElem (by omega))
    refine ⟨v, ?_⟩
    rw [show k = k / es * es + k % es by rw [Nat.mul_comm]; exact (Nat.div_add_mod k es).symm]
    exact hv
  have h1 := run_loadCells (P := P) w ⟨b, o, none⟩ (n * es) (fun j => (w.cell? ⟨b, o + j, none⟩).getD undef) (fun j hj => by
    obtain ⟨v, hv⟩ := hx j hj
    rw [addr_add, hv]; rfl)
  refine ⟨_, h1, by simp [Nat.min_eq_left hn], fun i row hi => ?_⟩
  have hil : i < n := by
    have := (List.getElem?_eq_some_iff.1 hi).1
    simp at this
    omega
  have hi2 : rows[i]? = some row := by
    rw [List.getElem?_take] at hi
    simpa [hil] using hi
  obtain ⟨hl, hcell⟩ := hc i row hi2
  refine ⟨hl, fun j l hj => ?_⟩
  have hjl : j < es := by rw [← hl]; exact (List.getElem?_eq_some_iff.1 hj).1
  obtain ⟨a1, v, a2, a3⟩ := hcell j l hj
  refine ⟨a1, v, ?_, a3⟩
  have hlt := row_lt (es := es) hil hjl
  simp [hlt, a2]

theorem Rep.ls_at {G : List Nat} {v : Value} {id g es off len : Nat} {loc : Loc} (hr : Rep nm w F m G v (.ls id g es off len)) (hm : m id = some (g, loc)) :
    ∃ a cap, v = .slice (some a) len cap ∧ a.block = loc.blk ∧ a.spot = none ∧ loc.es = es ∧ (0 < cap → a.off = loc.base + off * loc.es) ∧ off + cap ≤ loc.cap ∧ len ≤ cap := by
  cases hr with
  | pure h => cases h
  | ls _ _ _ _ _ cap a loc' hg hl hb hs he ho hc hlen =>
    have := hl loc hm
    subst this
    exact ⟨a, cap, rfl, hb, hs, he, ho, hc, hlen⟩

theorem Rep.rs_inv {G : List Nat} {v : Value} {es : Nat} {rows : List (List AV)} (hr : Rep nm w F m G v (.rs es rows)) :
    ∃ a cap, v = .slice (some a) rows.length cap ∧ rows.length ≤ cap ∧ (rows ≠ [] → a.spot = none) ∧ ∀ (i : Nat) (row : List AV), rows[i]? = some row → row.length = es ∧ ∀ (j : Nat) (l : AV), row[j]? = some l →
      leaf1 l = true ∧ ∃ x, F a.block ∧ w.cell? ⟨a.block, a.off + (i * es + j), none⟩ = some x ∧ PRep nm w F x l := by
  cases hr with
  | pure h => cases h with
    | rs a cap _ _ f hs hcap hes hc hr =>
      exact ⟨a, cap, rfl, hcap, hs, fun i row hi => ⟨hes i row hi, fun j l hl => ⟨(hc i row j l hi hl).2.1, f i j, (hc i row j l hi hl).1, (hc i row j l hi hl).2.2, hr i row j l hi hl⟩⟩⟩

/-- The rows that an append or a copy takes: how many there are, and what the first n cells are. -/
theorem rowsOf_sound (I : Inv nm w F m h) {v : Value} {y : AV} {es : Nat} {ys : List (List AV)} (hv : Rep nm w F m (gens h) v y) (hr : rowsOf h es y = some ys) :
    (Builtin.lenOf v).run P w = .ok ys.length w ∧ ∀ n, n ≤ ys.length → ∃ cells : Array Value, (Builtin.firstCells es n v).run P w = .ok cells w ∧ RRep nm w F m (gens h) es cells (ys.take n) := by
  unfold rowsOf at hr
  split at hr
  · injection hr with hr
    subst hr
    rw [hv.nils_inv]
    refine ⟨by simp [Builtin.lenOf], fun n hn => ⟨#[], by simp [Builtin.firstCells], ?_⟩⟩
    simp at hn
    subst hn
    exact ⟨by simp, fun i row hi => by simp at hi⟩
  · rename_i es' rows
    split at hr
    · rename_i he
      injection hr with hr
      subst hr
      subst he
      obtain ⟨ad, cap, rfl, hcap, hsp, hc⟩ := hv.rs_inv
      refine ⟨by simp [Builtin.lenOf], fun n hn => ?_⟩
      by_cases hn0 : n = 0
      · subst hn0
        refine ⟨#[], ?_, by simp, fun i row hi => by simp at hi⟩
        simp [Builtin.firstCells, loadCells, loadCellsFrom]
      rw [addr_eta (hsp (by rintro rfl; simp at hn; omega))]
      obtain ⟨cells, h1, h2⟩ := run_loadRows (P := P) (b := ad.block) (o := ad.off) (m := m) (G := gens h) hn (fun i row hi => ⟨(hc i row hi).1, fun j l hl => by
        obtain ⟨a1, x, _, a3, a4⟩ := (hc i row hi).2 j l hl
        exact ⟨a1, x, a3, .pure a4⟩⟩)
      exact ⟨cells, by simpa [Builtin.firstCells] using h1, h2⟩
    · cases hr
  · rename_i id g esL off len
    split at hr
    · rename_i fz es' rows hrows
      split at hr
      · rename_i hc
        obtain ⟨hc1, hc2, hc3⟩ := hc
        injection hr with hr
        subst hr
        subst hc1; subst hc2
        obtain ⟨loc, hm, he, hcap, cs, ty, fr, hb, hfr, hsz, hcell⟩ := I.rows hrows
        obtain ⟨a, cap, rfl, hab, has, _, hao, hac, hlc⟩ := hv.ls_at hm
        have hlen : ((rows.drop off).take len).length = len := by simp; omega
        refine ⟨by simp [Builtin.lenOf, hlen], fun n hn => ?_⟩
        rw [hlen] at hn
        have hae : a = ⟨loc.blk, a.off, none⟩ := by rw [← hab]; exact addr_eta has
        have htake : ((rows.drop off).take len).take n = (rows.drop off).take n := by rw [List.take_take, Nat.min_eq_left hn]
        rw [htake]
        by_cases hn0 : n = 0
        · subst hn0
          refine ⟨#[], ?_, by simp, fun i row hi => by simp at hi⟩
          simp [Builtin.firstCells, loadCells, loadCellsFrom]
        · have hoff : a.off = loc.base + off * es' := by rw [← he]; exact hao (by omega)
          obtain ⟨cells, h1, h2⟩ := run_loadRows (P := P) (b := loc.blk) (o := a.off) (es := es') (n := n) (rows := rows.drop off) (G := gens h) (nm := nm) (F := F) (m := m) (w := w) (by simp; omega) (fun i row hi => by
            rw [List.getElem?_drop] at hi
            obtain ⟨b1, b2⟩ := hcell (off + i) row hi
            refine ⟨b1, fun j l hl => ?_⟩
            obtain ⟨c1, x, _, c2, c3⟩ := b2 j l hl
            refine ⟨c1, x, ?_, c3⟩
            rw [hoff, show loc.base + off * es' + (i * es' + j) = loc.base + ((off + i) * es' + j) by rw [Nat.add_mul]; omega]
            exact c2)
          refine ⟨cells, ?_, h2⟩
          rw [hae]
          simpa [Builtin.firstCells] using h1
      · cases hr
    · cases hr
  · rename_i s
    split at hr
    · rename_i he
      injection hr with hr
      subst hr
      subst he
      obtain ⟨b, rfl, hbs⟩ := hv.str_inv
      subst hbs
      have hsz : b.size = b.data.toList.length := by simp
      refine ⟨by simp [Builtin.lenOf], fun n hn => ⟨(b.extract 0 n).data.map fun b => .int .u8 b.toNat, by simp [Builtin.firstCells], ?_⟩⟩
      simp only [List.length_map] at hn
      have hd : (b.extract 0 n).data.toList = b.data.toList.take n := by simp [ByteArray.data_extract]
      have hd2 : ∀ k, ((b.extract 0 n).data)[k]? = (b.data.toList.take n)[k]? := fun k => by rw [← hd, Array.getElem?_toList]
      refine ⟨?_, fun i row hi => ?_⟩
      · have := congrArg List.length hd
        simp only [Array.length_toList] at this
        simp only [Array.size_map, this]
        simp
      · rw [List.getElem?_take] at hi
        split at hi
        · rename_i hin
          rw [List.getElem?_map] at hi
          cases hbi : b.data.toList[i]? with
          | none => rw [hbi] at hi; cases hi
          | some c =>
            rw [hbi] at hi
            injection hi with hi
            subst hi
            refine ⟨rfl, fun j l hj => ?_⟩
            cases j with
            | succ j => simp at hj
            | zero =>
              simp at hj
              subst hj
              refine ⟨rfl, .int .u8 c.toNat, ?_, .pure (.int _ _)⟩
              rw [Array.getElem?_map, Nat.mul_one, Nat.add_zero, hd2, List.getElem?_take, if_pos hin, hbi]
              rfl
        · cases hi
    · cases hr
  · cases hr

theorem growBy_le (n : Nat) : ∀ (r c : Nat), c ≤ 2 * n + 512 → Builtin.growBy n r c ≤ 2 * n + 512
  | 0, c, h => h
  | r + 1, c, h => by
    unfold Builtin.growBy
    split
    · exact h
    · exact growBy_le n r _ (by omega)

theorem nextslicecap_le {n c : Nat} (hc : c < n) : Builtin.nextslicecap n c ≤ 2 * n + 512 := by
  unfold Builtin.nextslicecap
  split
  · omega
  · split
    · omega
    · exact growBy_le n 4 c (by omega)

theorem RRep.append {G : List Nat} {es : Nat} {a b : Array Value} {xs ys : List (List AV)} (h1 : RRep nm w F m G es a xs) (h2 : RRep nm w F m G es b ys) : RRep nm w F m G es (a ++ b) (xs ++ ys) := by
  refine ⟨by rw [Array.size_append, h1.1, h2.1, List.length_append, Nat.add_mul], fun i row hi => ?_⟩
  rw [List.getElem?_append] at hi
  split at hi
  · rename_i hlt
    refine ⟨(h1.2 i row hi).1, fun j l hj => ?_⟩
    obtain ⟨c1, v, c2, c3⟩ := (h1.2 i row hi).2 j l hj
    refine ⟨c1, v, ?_, c3⟩
    have hjl : j < es := by rw [← (h1.2 i row hi).1]; exact (List.getElem?_eq_some_iff.1 hj).1
    rw [Array.getElem?_append, if_pos (by rw [h1.1]; exact row_lt hlt hjl)]
    exact c2
  · rename_i hge
    refine ⟨(h2.2 _ row hi).1, fun j l hj => ?_⟩
    obtain ⟨c1, v, c2, c3⟩ := (h2.2 _ row hi).2 j l hj
    refine ⟨c1, v, ?_, c3⟩
    have hmul : (i - xs.length) * es + xs.length * es = i * es := by rw [← Nat.add_mul]; congr 1; omega
    rw [Array.getElem?_append, if_neg (by rw [h1.1]; omega), h1.1]
    rw [show i * es + j - xs.length * es = (i - xs.length) * es + j by omega]
    exact c2

/-- The other cells of a grown array are of no matter. -/
theorem RRep.grow {G : List Nat} {es : Nat} {a : Array Value} {xs : List (List AV)} (h1 : RRep nm w F m G es a xs) (r : Array Value) :
    ∀ (i : Nat) (row : List AV), xs[i]? = some row → row.length = es ∧ ∀ (j : Nat) (l : AV), row[j]? = some l → leaf1 l = true ∧ ∃ v, (a ++ r)[i * es + j]? = some v ∧ Rep nm w F m G v l := by
  intro i row hi
  refine ⟨(h1.2 i row hi).1, fun j l hj => ?_⟩
  obtain ⟨c1, v, c2, c3⟩ := (h1.2 i row hi).2 j l hj
  refine ⟨c1, v, ?_, c3⟩
  rw [Array.getElem?_append, if_pos (Array.getElem?_eq_some_iff.1 c2).1]
  exact c2

theorem cut_cap (need old : Nat) (e : TypeId) (t : Nat) : need ≤ (Question.appendCap need old e).cut t := by
  simp only [Question.cut]; omega

structure AppT (P : Program) (t u e es bytes : Nat) : Prop where
  hu : P.underlying t = some (.slice e)
  hs : sizeIs P e es = true
  hes : 0 < es
  hb : P.bytesOf e = bytes
  hb0 : 0 < bytes
  hz : ∃ i z, P.info? e = some i ∧ i.zero = some z ∧ z.cells.size = es
  hy : ∃ d, P.underlying u = some d ∧ ∀ k, d ≠ .int k

theorem run_append_fit {t u e es bytes : Nat} (H : AppT P t u e es bytes) {y : Value} {n : Nat} (ty : TypeId) {base : Option Addr} {len cap : Nat} {new : Array Value} {w' : World}
    (hn : (Builtin.lenOf y).run P w = .ok n w) (hle : len + n ≤ cap) (hnew : (Builtin.firstCells es n y).run P w = .ok new w)
    (hst : ((match base with | some a => storeCells (a.add (len * es)) new.toList | none => pure ()) : Sem Unit).run P w = .ok () w') :
    (Builtin.append_ #[t, u] ty #[.slice base len cap, y]).run P w = .ok (.slice base (len + n) cap) w' := by
  obtain ⟨i, z, hi, hz, hzs⟩ := H.hz
  obtain ⟨d, hd, hdi⟩ := H.hy
  unfold Builtin.append_
  simp only [List.getElem?_toArray, List.getElem?_cons_zero, List.getElem?_cons_succ, Sem.run_bind, run_underlying H.hu, Result.andThen_ok, run_sizeOf H.hs]
  simp [run_underlying hd, hn]
  rw [if_pos hle, hnew]
  simp only [Result.andThen_ok]
  cases base with
  | none =>
    simp only [Sem.run_pure] at hst ⊢
    injection hst with _ hst
    rw [hst]
  | some a => simp [hst]

theorem run_append_grow {t u e es bytes : Nat} (H : AppT P t u e es bytes) {y : Value} {n : Nat} (ty : TypeId) {base : Option Addr} {len cap : Nat} {old new : Array Value} {z : Value}
    (hn : (Builtin.lenOf y).run P w = .ok n w) (hgt : cap < len + n) (hbound : Builtin.nextslicecap (len + n) cap * bytes ≤ 2 ^ 48)
    (hold : (Builtin.firstCells es len (.slice base len cap)).run P w.drew = .ok old w.drew) (hnew : (Builtin.firstCells es n y).run P w.drew = .ok new w.drew) :
    ∃ (ncap : Nat) (rest : Array Value) (w' : World), len + n ≤ ncap ∧ rest.size = (ncap - (len + n)) * es ∧ w'.heap = w.heap.push (.cells (old ++ new ++ rest) e) ∧ w'.os = w.os ∧ w'.tape = w.tape ∧ w'.output = w.output ∧
      (Builtin.append_ #[t, u] ty #[.slice base len cap, y]).run P w = .ok (.slice (some ⟨w.heap.size, 0, none⟩) (len + n) ncap) w' := by
  obtain ⟨i, z, hi, hz, hzs⟩ := H.hz
  obtain ⟨d, hd, hdi⟩ := H.hy
  have hby : i.bytes = bytes := by rw [← H.hb]; simp [Program.bytesOf, hi]
  have hb0 : ¬ bytes = 0 := by have := H.hb0; omega
  refine ⟨(Question.appendCap (len + n) cap e).cut (w.tape w.drawn (.appendCap (len + n) cap e)),
    Builtin.zeroCells z.cells ((Question.appendCap (len + n) cap e).cut (w.tape w.drawn (.appendCap (len + n) cap e)) - (len + n)),
    { w.drew with heap := w.heap.push (.cells (old ++ new ++ Builtin.zeroCells z.cells ((Question.appendCap (len + n) cap e).cut (w.tape w.drawn (.appendCap (len + n) cap e)) - (len + n))) e) },
    cut_cap _ _ _ _, by simp [Builtin.zeroCells, hzs], rfl, rfl, rfl, rfl, ?_⟩
  unfold Builtin.append_
  simp only [List.getElem?_toArray, List.getElem?_cons_zero, List.getElem?_cons_succ, Sem.run_bind, run_underlying H.hu, Result.andThen_ok, run_sizeOf H.hs]
  simp [run_underlying hd, hn, run_typeInfo hi, hby, Question.forced, hb0]
  rw [if_neg (by omega), if_neg (by omega), hold]
  simp only [Result.andThen_ok, hnew, run_zeroValue hi hz, newRow, Sem.run_bind, run_newObj, Sem.run_pure, Array.append_assoc]
  rfl

theorem evApp_sound (I : Inv nm w F m h) {t u e es bytes : Nat} (H : AppT P t u e es bytes) {fb : Nat} {sl : Option Nat} {ty : TypeId} {v y : Value} {va ya : AV} {x : AV × Heap}
    (hv : Rep nm w F m (gens h) v va) (hy : Rep nm w F m (gens h) y ya) (hx : evApp fb sl es bytes va ya h = some x) :
    Does nm w F m h ((do pure (Next.value (← Builtin.append_ #[t, u] ty #[v, y])) : Sem Next).run P w) x := by
  unfold evApp at hx
  split at hx
  · cases hx
  · rename_i ys hys
    obtain ⟨hlen, hfirst⟩ := rowsOf_sound (P := P) I hy hys
    obtain ⟨new, hnew, hnr⟩ := hfirst ys.length (Nat.le_refl _)
    rw [List.take_length] at hnr
    have Id : Inv nm w.drew F m h := I.heap rfl
    have hrd : ∀ {v a}, Rep nm w F m (gens h) v a → Rep nm w.drew F m (gens h) v a := fun hr => hr.mono (fun _ _ => rfl) (fun _ h => h) (fun _ g h => ⟨g, h, Nat.le_refl _⟩) (fun _ _ _ _ h _ _ => h)
    obtain ⟨hlend, hfirstd⟩ := rowsOf_sound (P := P) Id (hrd hy) hys
    obtain ⟨newd, hnewd, hnrd⟩ := hfirstd ys.length (Nat.le_refl _)
    rw [List.take_length] at hnrd
    have hback : ∀ {v a}, Rep nm w.drew F m (gens h) v a → Rep nm w F m (gens h) v a := fun hr => hr.mono (fun _ _ => rfl) (fun _ h => h) (fun _ g h => ⟨g, h, Nat.le_refl _⟩) (fun _ _ _ _ h _ _ => h)
    have hnrb : RRep nm w F m (gens h) es newd ys := ⟨hnrd.1, fun i row hi => ⟨(hnrd.2 i row hi).1, fun j l hj => by
      obtain ⟨a1, x, a2, a3⟩ := (hnrd.2 i row hi).2 j l hj
      exact ⟨a1, x, a2, hback a3⟩⟩⟩
    split at hx
    · rw [hv.nils_inv]
      split at hx
      · rename_i hemp
        injection hx with hx
        subst hx
        have hn0 : ys.length = 0 := by simpa using hemp
        rw [hn0] at hlen hnew
        have hrun := run_append_fit H ty (base := none) (len := 0) (cap := 0) hlen (Nat.le_refl _) hnew rfl
        rw [run_v hrun]
        exact Does.same I rfl (.pure .nils)
      · rename_i hne
        split at hx
        · rename_i hbound
          have hn0 : 0 < ys.length := by
            cases ys with
            | nil => simp at hne
            | cons => simp
          have hnc : Builtin.nextslicecap (0 + ys.length) 0 = ys.length := by
            unfold Builtin.nextslicecap; rw [if_pos (by omega)]; omega
          obtain ⟨ncap, rest, w', h1, h2, h3, h4, h5, h6, hrun⟩ := run_append_grow H ty (base := none) (len := 0) (cap := 0) (old := #[]) (z := undef) hlen (by omega) (by rw [hnc]; exact hbound)
            (by simp [Builtin.firstCells]) hnewd
          rw [run_v hrun]
          rw [Nat.zero_add] at h1 h2 hrun ⊢
          exact newArr_sound I hx h3 h4 h5 h6 (frOk_zero _) h1 (by
            simp only [Array.size_append, h2, hnrb.1]
            have : ncap * es = ys.length * es + (ncap - ys.length) * es := by rw [← Nat.add_mul]; congr 1; omega
            simp; omega) (by simpa using hnrb.grow rest)
        · cases hx
    · rename_i id g esL off len
      split at hx
      · rename_i g' es' rows ho
        split at hx
        · rename_i hc
          obtain ⟨hc1, hc2, hc3, hc4, hc5⟩ := hc
          injection hx with hx
          subst hx
          subst hc1; subst hc2; subst hc3
          have hidl : id < h.length := (List.getElem?_eq_some_iff.1 ho).1
          have hrows : rowsAt h id g' = some (false, es', rows) := by simp [rowsAt, objAt, ho]
          obtain ⟨loc, hm, he, hcap, cs, tyb, fr, hb, hfr, hsz, hcell⟩ := I.rows hrows
          obtain ⟨a, cap, rfl, hab, has, _, hao, hac, hlc⟩ := hv.ls_at hm
          have hae : a = ⟨loc.blk, a.off, none⟩ := by rw [← hab]; exact addr_eta has
          have hlt : loc.blk < w.heap.size := (Array.getElem?_eq_some_iff.1 hb).1
          have hcellr : ∀ (i : Nat) (row : List AV), ((rows.drop off).take len)[i]? = some row → i < len ∧ row.length = es' ∧ ∀ (j : Nat) (l : AV), row[j]? = some l →
              leaf1 l = true ∧ ∃ v, cs[loc.base + off * es' + (i * es' + j)]? = some v ∧ Rep nm w F m (gens h) v l := by
            intro i row hi
            rw [List.getElem?_take] at hi
            split at hi
            · rename_i hil
              rw [List.getElem?_drop] at hi
              obtain ⟨b1, b2⟩ := hcell (off + i) row hi
              refine ⟨hil, b1, fun j l hl => ?_⟩
              obtain ⟨c1, x, c2, _, c3⟩ := b2 j l hl
              refine ⟨c1, x, ?_, c3⟩
              rw [show loc.base + off * es' + (i * es' + j) = loc.base + ((off + i) * es' + j) by rw [Nat.add_mul]; omega]
              exact c2
            · cases hi
          have hseg : loc.base + off * es' + cap * es' ≤ cs.size := by
            have : (off + cap) * es' ≤ loc.cap * es' := Nat.mul_le_mul_right _ hac
            rw [Nat.add_mul] at this
            omega
          by_cases hfit : len + ys.length ≤ cap
          · -- in place
            have hstore : ∃ w', ((match some a with | some a => storeCells (a.add (len * es')) new.toList | none => pure ()) : Sem Unit).run P w = .ok () w' ∧
                w'.os = w.os ∧ w'.tape = w.tape ∧ w'.output = w.output ∧ w.heap.size ≤ w'.heap.size ∧ (∀ b, b ≠ loc.blk → b < w.heap.size → w'.heap[b]? = w.heap[b]?) ∧
                ∃ cs' : Array Value, w'.heap[loc.blk]? = some (.cells cs' tyb fr) ∧ cs'.size = cs.size ∧
                  ∀ k, cs'[k]? = if k < loc.base + off * es' + len * es' then cs[k]? else if k < loc.base + off * es' + len * es' + ys.length * es' then new[k - (loc.base + off * es' + len * es')]? else cs[k]? := by
              by_cases hc0 : cap = 0
              · have hy0 : ys.length = 0 := by omega
                have hnew0 : new = #[] := by
                  apply Array.eq_empty_of_size_eq_zero
                  rw [hnr.1, hy0, Nat.zero_mul]
                refine ⟨w, by simp [hnew0, storeCells], rfl, rfl, rfl, Nat.le_refl _, fun _ _ _ => rfl, cs, hb, rfl, fun k => ?_⟩
                rw [hy0, Nat.zero_mul, Nat.add_zero]
                by_cases hk : k < loc.base + off * es' + len * es' <;> simp [hk]
              · have hoff : a.off = loc.base + off * es' := by rw [← he]; exact hao (by omega)
                have hl2 : loc.base + off * es' + len * es' + 0 + new.toList.length ≤ cs.size := by
                  have : (len + ys.length) * es' ≤ cap * es' := Nat.mul_le_mul_right _ hfit
                  rw [Nat.add_mul] at this
                  rw [Array.length_toList, hnr.1]
                  omega
                have hone : ∀ z ∈ new.toList, z.oneCell' = true := by
                  intro z hz
                  obtain ⟨k, hk⟩ := List.getElem?_of_mem hz
                  have hkl : k < ys.length * es' := by rw [← hnr.1]; have := (List.getElem?_eq_some_iff.1 hk).1; simpa using this
                  have hi : k / es' < ys.length := (Nat.div_lt_iff_lt_mul H.hes).2 hkl
                  obtain ⟨b1, b2⟩ := hnr.2 (k / es') _ (List.getElem?_eq_getElem hi)
                  have hj : k % es' < es' := Nat.mod_lt _ H.hes
                  obtain ⟨c1, x, c2, c3⟩ := b2 (k % es') _ (List.getElem?_eq_getElem (by omega))
                  rw [show k / es' * es' + k % es' = k by rw [Nat.mul_comm]; exact Nat.div_add_mod k es'] at c2
                  have : z = x := by
                    rw [Array.getElem?_toList, c2] at hk
                    injection hk with hk
                    exact hk.symm
                  rw [this]
                  exact (c3.leaf c1).1
                have hrun := run_storeCells_putObj (P := P) new.toList (loc.base + off * es' + len * es') 0 cs w hb hfr hl2 hone
                refine ⟨putObj w loc.blk (.cells (spliceA cs (loc.base + off * es' + len * es' + 0) new.toList) tyb fr), by rw [hae]; simp only [addr_add, hoff]; exact hrun, rfl, rfl, rfl, by simp [putObj], fun b hne _ => by rw [putObj_get, if_neg (fun e => hne e.1.symm)], spliceA cs (loc.base + off * es' + len * es' + 0) new.toList, by rw [putObj_get, if_pos ⟨rfl, hlt⟩],
                  spliceA_size (by omega), fun k => ?_⟩
                rw [spliceA_get (by omega)]
                simp only [Nat.add_zero, Array.length_toList, hnr.1, Array.getElem?_toList]
            obtain ⟨w', hst, g1, g2, g3, g4, g5, cs', g6, g7, g8⟩ := hstore
            have hrun := run_append_fit H ty (base := some a) hlen hfit hnew hst
            rw [run_v hrun]
            obtain ⟨m', hm', hI, hT⟩ := put_step (w' := w') (h' := h.set id ⟨g' + 1, .arr false false es' ((rows.drop off).take len ++ ys)⟩) (g' := g' + 1) (o := .arr false false es' ((rows.drop off).take len ++ ys))
              (loc := ⟨loc.blk, loc.base + off * es', es', cap⟩) (id := id) I g1 g2 g3 g4 g5 (.inr ⟨g', loc, _, hm, ho, rfl, rfl⟩) (fun j hj => by rw [List.getElem?_set_ne (fun e => hj e.symm)]) (by simp [hidl]) rfl
              (.inl fun g0 hg0 => by rw [gens_get, ho] at hg0; injection hg0 with hg0; simp only at hg0; omega)
              (fun m' _ hrep => ⟨rfl, cs', tyb, fr, g6, by rw [g7]; exact hfr, by rw [g7]; exact hseg, by simp; omega, fun i row hi => by
                rw [List.getElem?_append] at hi
                have hrl : ((rows.drop off).take len).length = len := by simp; omega
                rw [hrl] at hi
                split at hi
                · rename_i hil
                  obtain ⟨_, b1, b2⟩ := hcellr i row hi
                  refine ⟨b1, fun j l hj => ?_⟩
                  obtain ⟨c1, x, c2, c3⟩ := b2 j l hj
                  have hjl : j < es' := by rw [← b1]; exact (List.getElem?_eq_some_iff.1 hj).1
                  refine ⟨c1, x, ?_, hrep _ _ c3⟩
                  rw [g8, if_pos (by have := row_lt (es := es') hil hjl; simp only; omega)]
                  exact c2
                · rename_i hil
                  obtain ⟨b1, b2⟩ := hnr.2 _ row hi
                  have hi2 : i - len < ys.length := (List.getElem?_eq_some_iff.1 hi).1
                  refine ⟨b1, fun j l hj => ?_⟩
                  obtain ⟨c1, x, c2, c3⟩ := b2 j l hj
                  have hjl : j < es' := by rw [← b1]; exact (List.getElem?_eq_some_iff.1 hj).1
                  refine ⟨c1, x, ?_, hrep _ _ c3⟩
                  have hmul : i * es' = len * es' + (i - len) * es' := by rw [← Nat.add_mul]; congr 1; omega
                  have := row_lt (es := es') hi2 hjl
                  simp only
                  rw [g8, if_neg (by omega), if_pos (by omega), show loc.base + off * es' + (i * es' + j) - (loc.base + off * es' + len * es') = (i - len) * es' + j by omega]
                  exact c2⟩)
            refine ⟨_, w', F, m', .inl rfl, hI, hT, ?_⟩
            refine .ls id (g' + 1) es' 0 (len + ys.length) cap a ⟨loc.blk, loc.base + off * es', es', cap⟩ ⟨g' + 1, by rw [gens_get]; simp [hidl], Nat.le_refl _⟩ (fun loc' hl => ?_) hab has rfl (fun hc0 => ?_) (by simp) hfit
            · rw [hm'] at hl
              simp at hl
              exact hl.symm
            · simp only [Nat.zero_mul, Nat.add_zero]
              rw [hao hc0, he]
          · -- a new array
            have hold : ∃ old : Array Value, (Builtin.firstCells es' len (.slice (some a) len cap)).run P w.drew = .ok old w.drew ∧ RRep nm w F m (gens h) es' old ((rows.drop off).take len) := by
              by_cases hl0 : len = 0
              · subst hl0
                exact ⟨#[], by simp [Builtin.firstCells, loadCells, loadCellsFrom], by simp, fun i row hi => by simp at hi⟩
              · have hoff : a.off = loc.base + off * es' := by rw [← he]; exact hao (by omega)
                obtain ⟨cells, h1, h2⟩ := run_loadRows (P := P) (b := loc.blk) (o := a.off) (es := es') (n := len) (rows := (rows.drop off).take len) (G := gens h) (nm := nm) (F := F) (m := m) (w := w.drew) (by simp; omega) (fun i row hi => by
                  obtain ⟨hil, b1, b2⟩ := hcellr i row hi
                  refine ⟨b1, fun j l hl => ?_⟩
                  obtain ⟨c1, x, c2, c3⟩ := b2 j l hl
                  refine ⟨c1, x, ?_, hrd c3⟩
                  rw [hoff]
                  have : w.drew.heap = w.heap := rfl
                  simp [World.cell?, this, hb, c2])
                rw [List.take_of_length_le (by simp; omega)] at h2
                refine ⟨cells, by rw [hae]; simpa [Builtin.firstCells] using h1, h2.1, fun i row hi => ⟨(h2.2 i row hi).1, fun j l hj => by
                  obtain ⟨a1, x, a2, a3⟩ := (h2.2 i row hi).2 j l hj
                  exact ⟨a1, x, a2, hback a3⟩⟩⟩
            obtain ⟨old, ho1, ho2⟩ := hold
            have hbound : Builtin.nextslicecap (len + ys.length) cap * bytes ≤ 2 ^ 48 := Nat.le_trans (Nat.mul_le_mul_right _ (nextslicecap_le (by omega))) hc5
            obtain ⟨ncap, rest, w', h1, h2, h3, h4, h5, h6, hrun⟩ := run_append_grow H ty (z := undef) hlen (by omega) hbound ho1 hnewd
            rw [run_v hrun]
            have hboth := ho2.append hnrb
            have hrl : ((rows.drop off).take len ++ ys).length = len + ys.length := by simp; omega
            obtain ⟨m', hm', hI, hT⟩ := put_step (w' := w') (h' := h.set id ⟨g' + 1, .arr false false es' ((rows.drop off).take len ++ ys)⟩) (g' := g' + 1) (o := .arr false false es' ((rows.drop off).take len ++ ys))
              (loc := ⟨w.heap.size, 0, es', ncap⟩) (id := id) I h4 h5 h6 (by rw [h3]; simp) (fun b hne hlt => by rw [h3, Array.getElem?_push, if_neg (by omega)]) (.inl (Nat.le_refl _))
              (fun j hj => by rw [List.getElem?_set_ne (fun e => hj e.symm)]) (by simp [hidl]) rfl
              (.inl fun g0 hg0 => by rw [gens_get, ho] at hg0; injection hg0 with hg0; simp only at hg0; omega)
              (fun m' _ hrep => ⟨rfl, old ++ newd ++ rest, e, (0, 0), by rw [h3]; simp, frOk_zero _, by
                have : ncap * es' = (len + ys.length) * es' + (ncap - (len + ys.length)) * es' := by rw [← Nat.add_mul]; congr 1; omega
                have hb1 := hboth.1
                rw [hrl] at hb1
                rw [Array.size_append, hb1, h2]
                simp only
                omega, by rw [hrl]; exact h1, fun i row hi => by
                  obtain ⟨b1, b2⟩ := hboth.grow rest i row hi
                  refine ⟨b1, fun j l hj => ?_⟩
                  obtain ⟨c1, x, c2, c3⟩ := b2 j l hj
                  exact ⟨c1, x, by simpa using c2, hrep _ _ c3⟩⟩)
            refine ⟨_, w', F, m', .inl rfl, hI, hT, ?_⟩
            refine .ls id (g' + 1) es' 0 (len + ys.length) ncap ⟨w.heap.size, 0, none⟩ ⟨w.heap.size, 0, es', ncap⟩ ⟨g' + 1, by rw [gens_get]; simp [hidl], Nat.le_refl _⟩ (fun loc' hl => ?_) rfl rfl rfl (fun _ => by simp) (by simp) h1
            rw [hm'] at hl
            simp at hl
            exact hl.symm
        · cases hx
      · cases hx
    · cases hx

end Go.Vm
