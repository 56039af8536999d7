/- The value machine: each operation but calls does what the model's does. -/
import Derived.Test.YtfmmcafccijnhaaVmL
namespace Go.Vm

variable {P : Program} {nm : Nat → Option Nat} {w : World} {F : Nat → Prop} {m : MapT} {h : Heap}

def isCall : COp → Bool
  | .call .. | .callv .. => true
  | _ => false

theorem map_eq {α β : Type} {o : Option α} {f : α → β} {x : β} (h : o.map f = some x) : ∃ a, o = some a ∧ f a = x := Option.map_eq_some_iff.1 h

theorem does_same (I : Inv nm w F m h) {s : Sem Value} {r : AV} (hs : ∃ v, s.run P w = .ok v w ∧ Rep nm w F m (gens h) v r) : Does nm w F m h ((do pure (Next.value (← s)) : Sem Next).run P w) (r, h) := by
  obtain ⟨v, h1, h2⟩ := hs
  rw [run_v h1]
  exact Does.same I rfl h2

theorem toList_one {α : Type} {a : Array α} {x : α} (h : a.toList = [x]) : a = #[x] := by cases a; simp at h; subst h; rfl
theorem toList_two {α : Type} {a : Array α} {x y : α} (h : a.toList = [x, y]) : a = #[x, y] := by cases a; simp at h; subst h; rfl

theorem b2s_loop : ∀ (cells : List Value) (rows : List (List AV)) (s : List UInt8) (b : ByteArray) (w : World), cells.length = rows.length →
    (∀ (i : Nat) (v : Value) (n : Int), cells[i]? = some v → rows[i]? = some [.int .u8 n] → v = .int .u8 n) → bytesOf rows = some s →
    ∃ r : ByteArray, (forIn cells b (fun c (s : ByteArray) => (match c with
        | .int .u8 n => pure (ForInStep.yield (s.push (UInt8.ofNat n.toNat)))
        | _ => do
          stuck "bytesToString: byte expected"
          pure (ForInStep.yield s) : Sem (ForInStep ByteArray)))).run P w = .ok r w ∧ r.data.toList = b.data.toList ++ s
  | [], [], s, b, w, _, _, hm => by
    simp only [bytesOf] at hm
    injection hm with hm
    subst hm
    exact ⟨b, by simp, by simp⟩
  | v :: cells, row :: rows, s, b, w, hl, hc, hm => by
    have hrow : ∃ n s', row = [.int .u8 n] ∧ bytesOf rows = some s' ∧ s = UInt8.ofNat n.toNat :: s' := by
      unfold bytesOf at hm
      split at hm
      · rename_i he; cases he
      · rename_i n r' he
        injection he with h1 h2
        obtain ⟨s', h3, h4⟩ := map_eq hm
        subst h2
        exact ⟨n, s', h1, h3, h4.symm⟩
      · cases hm
    obtain ⟨n, s', rfl, hs', rfl⟩ := hrow
    have hvn := hc 0 v n rfl rfl
    subst hvn
    obtain ⟨r, h1, h2⟩ := b2s_loop cells rows s' (b.push (UInt8.ofNat n.toNat)) w (by simpa using hl) (fun i v n h3 h4 => hc (i + 1) v n h3 h4) hs'
    refine ⟨r, ?_, ?_⟩
    · rw [List.forIn_cons, Sem.run_bind]
      simp only [Sem.run_pure, Result.andThen_ok]
      exact h1
    · rw [h2]; simp [ByteArray.push]
  | [], _ :: _, _, _, _, h, _, _ => by cases h
  | _ :: _, [], _, _, _, h, _, _ => by cases h

theorem b2s_sound (I : Inv nm w F m h) {s d e : Nat} {v : Value} {va : AV} {rows : List (List AV)} {r : List UInt8} (hs : P.underlying s = some (.slice e)) (hd : P.underlying d = some .string) (he : P.underlying e = some (.int .u8))
    (hv : Rep nm w F m (gens h) v va) (hstr : isStr va = false) (hrows : rowsOf h 1 va = some rows) (hr : bytesOf rows = some r) : ∃ x, (convert s d v).run P w = .ok x w ∧ Rep nm w F m (gens h) x (.str r) := by
  obtain ⟨hlen, hfirst⟩ := rowsOf_sound (P := P) I hv hrows
  obtain ⟨cells, hcells, hcr⟩ := hfirst rows.length (Nat.le_refl _)
  rw [List.take_length] at hcr
  have hsl : ∃ b l c, v = .slice b l c := by
    unfold rowsOf at hrows
    split at hrows
    · exact ⟨_, _, _, hv.nils_inv⟩
    · obtain ⟨b, cap, rfl, _⟩ := hv.rs_inv; exact ⟨_, _, _, rfl⟩
    · obtain ⟨p, l, c, rfl⟩ := hv.ls_shape; exact ⟨_, _, _, rfl⟩
    · cases hstr
    · cases hrows
  obtain ⟨b, l, c, rfl⟩ := hsl
  have hl : l = rows.length := by
    simp [Builtin.lenOf] at hlen
    exact hlen
  subst hl
  have hconv : (convert s d (.slice b rows.length c)).run P w = (Conv.bytesToString (.slice b rows.length c)).run P w := by
    cases b <;> simp [convert, run_underlying hs, run_underlying hd, run_underlying he]
  cases b with
  | none =>
    simp [Builtin.firstCells] at hcells
    subst hcells
    have hr0 : rows.length = 0 := by have := hcr.1; simp at this; omega
    have : rows = [] := List.eq_nil_of_length_eq_zero hr0
    subst this
    simp only [bytesOf] at hr
    injection hr with hr
    subst hr
    exact ⟨.string .empty, by rw [hconv]; rfl, .pure (.str _)⟩
  | some a =>
    simp only [Builtin.firstCells, Nat.mul_one] at hcells
    obtain ⟨x, h1, h2⟩ := b2s_loop (P := P) cells.toList rows r .empty w (by simpa using hcr.1) (fun i v n h3 h4 => by
      obtain ⟨_, y, h5, h6⟩ := (hcr.2 i _ h4).2 0 _ rfl
      simp only [Nat.mul_one, Nat.add_zero] at h5
      have h3' : cells[i]? = some v := by simpa using h3
      rw [h3'] at h5
      injection h5 with h5
      subst h5
      exact h6.int_inv) hr
    refine ⟨.string x, ?_, ?_⟩
    · rw [hconv]
      simp only [Conv.bytesToString, Sem.run_bind, hcells, Result.andThen_ok, Sem.run_pure]
      rw [← Array.forIn_toList]
      have h3 : ∀ q : Result ByteArray, q = Result.ok x w → q.andThen (fun a w' => Result.ok (Value.string a) w') = .ok (.string x) w := fun q hq => by rw [hq]; rfl
      exact h3 _ h1
    · have := PRep.str (nm := nm) (w := w) (F := F) x
      rw [h2] at this
      exact .pure (by simpa using this)

theorem op_sound (I : Inv nm w F m h) {E : Env} {C : Calls2} {fb : Nat} {a : Act} {t : Tmps} (hT : TRep nm w F m (gens h) a t) {o : Oper} {c : COp} {x : AV × Heap} (hc : chkOp P nm o c = true) (hn : isCall c = false)
    (hx : evOp E C fb t h c = some x) : Does nm w F m h ((execOp a.eval o).run P w) x := by
  obtain ⟨dst, op, ty, pos, after, guard⟩ := o
  unfold chkOp at hc
  simp only at hc
  split at hc
  · -- move
    simp only [evOp] at hx
    injection hx with hx
    subst hx
    exact Does.same I rfl (chkO_rep hT hc)
  · -- assign
    simp only [evOp] at hx
    injection hx with hx
    subst hx
    exact Does.same I rfl (chkO_rep hT hc)
  · -- pick
    simp only [Bool.and_eq_true] at hc
    obtain ⟨⟨h1, h2⟩, h3⟩ := hc
    simp only [evOp] at hx
    have r1 := chkO_rep hT h1
    split at hx
    · rename_i hb
      injection hx with hx
      subst hx
      rw [hb] at r1
      exact Does.same I (by simp [execOp, r1.bool_inv, asBool]) (chkO_rep hT h2)
    · rename_i hb
      injection hx with hx
      subst hx
      rw [hb] at r1
      exact Does.same I (by simp [execOp, r1.bool_inv, asBool]) (chkO_rep hT h3)
    · cases hx
  · -- alloc
    simp only [evOp] at hx
    split at hx
    · rename_i hl; exact new_sound I hc hl hx
    · cases hx
  · -- box
    simp only [evOp] at hx
    split at hx
    · rename_i hl; exact box_sound I (chkO_rep hT hc) hl hx
    · cases hx
  · -- build
    simp only [evOp] at hx
    simp only [Bool.and_eq_true] at hc
    obtain ⟨h1, h2⟩ := hc
    obtain ⟨r, hr, rfl⟩ := map_eq hx
    exact does_same I (build_sound I hT h1 h2 hr)
  · -- buildSlice
    simp only [evOp] at hx
    simp only [Bool.and_eq_true, beq_iff_eq, decide_eq_true_eq] at hc
    obtain ⟨⟨⟨⟨h1, h2⟩, h3⟩, h4⟩, h5⟩ := hc
    split at hx
    · rename_i hz
      split at hx
      · rename_i rows hrows
        split at h5
        · rename_i e hu
          simp only [Bool.and_eq_true] at h5
          subst h1
          exact buildS_sound I hT hu h5.1 h3 h2 h5.2 hz.1 hz.2 h4 hrows hx
        · cases h5
      · cases hx
    · cases hx
  · -- load
    simp only [evOp] at hx
    simp only [Bool.and_eq_true] at hc
    obtain ⟨⟨⟨h1, h2⟩, h3⟩, h4⟩ := hc
    obtain ⟨r, hr, rfl⟩ := map_eq hx
    exact does_same I (evLd_sound I h1 h2 h3 (chkO_rep hT h4) hr)
  · -- store
    simp only [evOp] at hx
    simp only [Bool.and_eq_true] at hc
    obtain ⟨⟨h1, h2⟩, h3⟩ := hc
    obtain ⟨w', s1, s2, s3, s4⟩ := evSt_sound I h1 (chkO_rep hT h2) (chkO_rep hT h3) hx
    refine ⟨undef, w', F, m, .inr ⟨rfl, by simp [execOp, s1]⟩, s2, s3, ?_⟩
    rw [s4]
    exact .pure (.tup #[] [] rfl (fun j v l h1 _ => by simp at h1))
  · -- nilCheck
    simp only [evOp] at hx
    have r1 := chkO_rep hT hc
    split at hx
    · rename_i cs hcs
      injection hx with hx
      subst hx
      rw [hcs] at r1
      obtain ⟨b, o, hv, _⟩ := r1.rp_inv
      refine Does.same I (v := .pointer (some ⟨b, o, none⟩)) (by simp only [execOp, hv, Sem.run_pure]) ?_
      rw [← hv]; exact r1
    · rename_i id g i off hcs
      injection hx with hx
      subst hx
      rw [hcs] at r1
      obtain ⟨loc, hv, _⟩ := r1.lp_inv
      refine Does.same I (v := .pointer (some ⟨loc.blk, loc.base + i * loc.es + off, none⟩)) (by simp only [execOp, hv, Sem.run_pure]) ?_
      rw [← hv]; exact r1
    · cases hx
  · -- binOp
    simp only [evOp] at hx
    simp only [Bool.and_eq_true, beq_iff_eq] at hc
    obtain ⟨⟨h1, h2⟩, h3⟩ := hc
    subst h1
    obtain ⟨r, hr, rfl⟩ := map_eq hx
    exact does_same I (evBin_sound (chkO_rep hT h2) (chkO_rep hT h3) hr)
  · -- bools
    simp only [evOp] at hx
    simp only [Bool.and_eq_true, beq_iff_eq] at hc
    obtain ⟨⟨⟨h1, h2⟩, h3⟩, h4⟩ := hc
    split at h4
    · rename_i hu
      have r1 := chkO_rep hT h2
      have r2 := chkO_rep hT h3
      split at hx
      · rename_i ea eb
        injection hx with hx
        subst hx
        rw [ea] at r1
        rw [eb] at r2
        exact does_same I ⟨_, eqb_sound h1 hu r1 r2, .pure (.bool _)⟩
      · cases hx
    · cases h4
  · -- nothing?
    simp only [evOp] at hx
    simp only [Bool.and_eq_true] at hc
    obtain ⟨⟨⟨h1, h2⟩, h3⟩, h4⟩ := hc
    obtain ⟨r, hr, rfl⟩ := map_eq hx
    exact does_same I ⟨_, eqn_sound (beq_iff_eq.1 h1) h4 (chkO_rep hT h2) (chkO_rep hT h3) hr, .pure (.bool _)⟩
  · -- structs
    simp only [evOp] at hx
    simp only [Bool.and_eq_true, beq_iff_eq, Bool.not_eq_true'] at hc
    obtain ⟨⟨⟨⟨h1, h2⟩, h3⟩, h4⟩, h5⟩ := hc
    have r1 := chkO_rep hT h2
    have r2 := chkO_rep hT h3
    split at hx
    · rename_i ea eb
      obtain ⟨r, hr, rfl⟩ := map_eq hx
      rw [ea] at r1
      rw [eb] at r2
      exact does_same I ⟨_, eqa_sound h1 h4 h5 r1 r2 hr, .pure (.bool _)⟩
    · cases hx
  · -- unOp
    simp only [evOp] at hx
    simp only [Bool.and_eq_true, beq_iff_eq] at hc
    obtain ⟨h1, h2⟩ := hc
    subst h1
    have r1 := chkO_rep hT h2
    split at hx
    · rename_i hb
      injection hx with hx
      subst hx
      rw [hb] at r1
      exact does_same I ⟨_, by rw [r1.bool_inv]; rfl, .pure (.bool _)⟩
    · rename_i hb
      injection hx with hx
      subst hx
      rw [hb] at r1
      exact does_same I ⟨_, by rw [r1.int_inv]; rfl, .pure (.int _ _)⟩
    · rename_i hb
      injection hx with hx
      subst hx
      rw [hb] at r1
      exact does_same I ⟨_, by rw [r1.int_inv]; rfl, .pure (.int _ _)⟩
    · cases hx
  · -- whole numbers converted
    simp only [evOp] at hx
    simp only [Bool.and_eq_true] at hc
    obtain ⟨⟨h1, h2⟩, h3⟩ := hc
    have r1 := chkO_rep hT h1
    split at h3
    · rename_i k' hu
      have hk := beq_iff_eq.1 h3
      subst hk
      split at hx
      · rename_i hb
        injection hx with hx
        subst hx
        rw [hb] at r1
        exact does_same I ⟨_, cvi_sound h2 hu r1, .pure (.int _ _)⟩
      · cases hx
    · cases h3
  · -- a text's bytes
    simp only [evOp] at hx
    simp only [Bool.and_eq_true] at hc
    obtain ⟨⟨h1, h2⟩, h3⟩ := hc
    have r1 := chkO_rep hT h1
    split at h3
    · rename_i e hu
      split at h3
      · rename_i he
        split at hx
        · rename_i hb
          rw [hb] at r1
          exact s2b_sound I h2 hu he r1 hx
        · cases hx
      · cases h3
    · cases h3
  · -- bytes as a text
    simp only [evOp] at hx
    simp only [Bool.and_eq_true] at hc
    obtain ⟨h1, h3⟩ := hc
    have r1 := chkO_rep hT h1
    split at h3
    · rename_i e hu hd
      split at h3
      · rename_i he
        split at hx
        · cases hx
        · rename_i hstr
          split at hx
          · rename_i rows hrows
            obtain ⟨r, hr, rfl⟩ := map_eq hx
            exact does_same I (b2s_sound I hu hd he r1 (by simpa using hstr) hrows hr)
          · cases hx
      · cases h3
    · cases h3
  · -- makeSlice
    simp only [evOp] at hx
    simp only [Bool.and_eq_true, decide_eq_true_eq] at hc
    obtain ⟨⟨⟨h1, h2⟩, h3⟩, h4⟩ := hc
    have r1 := chkO_rep hT h1
    have r2 := chkO_rep hT h2
    split at h4
    · rename_i e hu
      simp only [Bool.and_eq_true, beq_iff_eq] at h4
      split at hx
      · rename_i ea eb
        split at hx
        · rename_i hcond
          rw [ea] at r1
          rw [eb] at r2
          have := mkS_sound (P := P) I hu h4.1.1 h3 h4.1.2 h4.2 hcond.1 hcond.2.1 hcond.2.2.1 hcond.2.2.2.1 hcond.2.2.2.2.1 hcond.2.2.2.2.2 hx
          rw [← r1.int_inv, ← r2.int_inv] at this
          exact this
        · cases hx
      · cases hx
    · cases h4
  · -- a slice cut
    simp only [evOp] at hx
    simp only [Bool.and_eq_true] at hc
    obtain ⟨⟨⟨h1, h2⟩, h3⟩, h4⟩ := hc
    obtain ⟨r, hr, rfl⟩ := map_eq hx
    exact does_same I (slc_sound hT h1 h3 h4 (chkO_rep hT h2) hr)
  · -- a text cut
    simp only [evOp] at hx
    simp only [Bool.and_eq_true] at hc
    obtain ⟨⟨⟨h1, h2⟩, h3⟩, h4⟩ := hc
    have r1 := chkO_rep hT h2
    split at h1
    · rename_i hu
      split at hx
      · rename_i hb
        split at hx
        · rename_i b hb2
          split at hx
          · rename_i l hl
            injection hx with hx
            subst hx
            rw [hb] at r1
            exact does_same I (sls_sound hT hu h3 h4 r1 hb2 hl)
          · cases hx
        · cases hx
      · cases hx
    · cases h1
  · -- a field's place
    simp only [evOp] at hx
    simp only [Bool.and_eq_true] at hc
    obtain ⟨h1, h2⟩ := hc
    split at h2
    · rename_i fs hu
      split at h2
      · rename_i f hf
        simp only [Bool.and_eq_true, beq_iff_eq] at h2
        obtain ⟨h3, h4⟩ := h2
        split at h4
        · rename_i ti hi
          obtain ⟨r, hr, rfl⟩ := map_eq hx
          exact does_same I (fa_sound (e := 0) hu hf h3 hi (by simpa using h4) (chkO_rep hT h1) hr)
        · cases h4
      · cases h2
    · cases h2
  · -- a field
    simp only [evOp] at hx
    simp only [Bool.and_eq_true] at hc
    obtain ⟨h1, h2⟩ := hc
    have r1 := chkO_rep hT h1
    split at h2
    · rename_i fs hu
      split at h2
      · rename_i f hf
        simp only [Bool.and_eq_true, beq_iff_eq] at h2
        obtain ⟨⟨⟨h3, h4⟩, h5⟩, h6⟩ := h2
        split at hx
        · rename_i hb
          obtain ⟨r, hr, rfl⟩ := map_eq hx
          rw [hb] at r1
          obtain ⟨vs, hv, hl⟩ := LRep.of_agg r1
          obtain ⟨v, hv2, hrep⟩ := part_sound (P := P) h4 h5 (by simpa using h6) hl hr
          refine does_same I ⟨v, ?_, hrep⟩
          simp only [Instr.field, Sem.run_bind, run_underlying hu, Result.andThen_ok, hf, hv, asAgg, Sem.run_pure, h3, hv2]
        · cases hx
      · cases h2
    · cases h2
  · -- a slice's element's place
    simp only [evOp] at hx
    simp only [Bool.and_eq_true] at hc
    obtain ⟨⟨h1, h2⟩, h3⟩ := hc
    obtain ⟨r, hr, rfl⟩ := map_eq hx
    exact does_same I (ixs_sound h1 (chkO_rep hT h2) (chkO_rep hT h3) hr)
  · -- an array's element's place
    simp only [evOp] at hx
    simp only [Bool.and_eq_true] at hc
    obtain ⟨⟨h1, h2⟩, h3⟩ := hc
    split at h3
    · rename_i n e hu
      simp only [Bool.and_eq_true, beq_iff_eq] at h3
      obtain ⟨h4, h5⟩ := h3
      subst h4
      obtain ⟨r, hr, rfl⟩ := map_eq hx
      exact does_same I (ixa_sound hu h5 (chkO_rep hT h1) (chkO_rep hT h2) hr)
    · cases h3
  · -- an array's element
    simp only [evOp] at hx
    simp only [Bool.and_eq_true] at hc
    obtain ⟨⟨h1, h2⟩, h3⟩ := hc
    have r1 := chkO_rep hT h1
    have r2 := chkO_rep hT h2
    split at h3
    · rename_i n e hu
      simp only [Bool.and_eq_true, beq_iff_eq] at h3
      obtain ⟨⟨⟨h4, h5⟩, h6⟩, h7⟩ := h3
      subst h4
      split at hx
      · rename_i ea eb
        split at hx
        · rename_i hcond
          obtain ⟨r, hr, rfl⟩ := map_eq hx
          rw [ea] at r1
          rw [eb] at r2
          obtain ⟨vs, hv, hl⟩ := LRep.of_agg r1
          obtain ⟨v, hv2, hrep⟩ := part_sound (P := P) h5 h6 (by simpa using h7) hl hr
          refine does_same I ⟨v, ?_, hrep⟩
          simp only [Instr.index, r2.int_inv, asIntOf, Sem.run_bind, Sem.run_pure, run_underlying hu, Result.andThen_ok, hv, if_pos hcond, run_sizeOf h6, hv2]
        · cases hx
      · cases hx
    · cases h3
  · -- a text's byte
    simp only [evOp] at hx
    simp only [Bool.and_eq_true] at hc
    obtain ⟨⟨h1, h2⟩, h3⟩ := hc
    have r1 := chkO_rep hT h1
    have r2 := chkO_rep hT h2
    split at h3
    · rename_i hu
      split at hx
      · rename_i ea eb
        split at hx
        · rename_i h0
          obtain ⟨b, hb, rfl⟩ := map_eq hx
          rw [ea] at r1
          rw [eb] at r2
          exact does_same I ⟨_, ixstr_sound hu r1 r2 h0 hb, .pure (.int _ _)⟩
        · cases hx
      · cases hx
    · cases h3
  · -- extract
    simp only [evOp] at hx
    simp only [Bool.and_eq_true, beq_iff_eq] at hc
    obtain ⟨h1, h2⟩ := hc
    subst h2
    have r1 := chkO_rep hT h1
    split at hx
    · rename_i hb
      obtain ⟨r, hr, rfl⟩ := map_eq hx
      rw [hb] at r1
      obtain ⟨vs, hv, hn2, hl⟩ := r1.tup_inv
      rename_i i _ _ _
      have hlt : i < vs.size := by rw [hn2]; exact (List.getElem?_eq_some_iff.1 hr).1
      have hget : vs[i]? = some vs[i] := Array.getElem?_eq_getElem hlt
      refine does_same I ⟨vs[i], ?_, hl i _ r hget hr⟩
      simp only [Instr.extract, hv, hget, Sem.run_pure]
    · cases hx
  · -- makeFunc
    simp only [evOp] at hx
    simp only [Bool.and_eq_true, beq_iff_eq] at hc
    obtain ⟨⟨h1, h2⟩, h3⟩ := hc
    injection hx with hx
    subst hx
    obtain ⟨hl, hr⟩ := chkOs_rep hT h3
    rename_i f first caps key caps'
    have hfe : first = #[] := Array.eq_empty_of_size_eq_zero h2
    subst hfe
    refine does_same I ⟨.func (.func f) #[] (caps.map a.eval), by simp [Instr.makeFunc], .fn f key _ _ h1 (by simpa using hl) (fun j v l a1 a2 => hr j v l (by simpa using a1) a2)⟩
  · -- makeMap
    simp only [evOp] at hx
    split at hx
    · rename_i id g h' hp
      injection hx with hx
      subst hx
      exact mkm_sound I hp
    · cases hx
  · -- lookup
    simp only [evOp] at hx
    simp only [Bool.and_eq_true, beq_iff_eq] at hc
    obtain ⟨⟨⟨h1, h2⟩, h3⟩, h4⟩ := hc
    subst h1
    split at h4
    · rename_i kt e hu
      simp only [Bool.and_eq_true] at h4
      obtain ⟨h5, h6⟩ := h4
      split at h6
      · rename_i i hi
        split at h6
        · rename_i z hz
          obtain ⟨r, hr, rfl⟩ := map_eq hx
          exact does_same I (mget_sound I hu h5 hi hz h6 (chkO_rep hT h2) (chkO_rep hT h3) hr)
        · cases h6
      · cases h6
    · cases h4
  · -- mapUpdate
    simp only [evOp] at hx
    simp only [Bool.and_eq_true] at hc
    obtain ⟨⟨⟨h1, h2⟩, h3⟩, h4⟩ := hc
    split at h4
    · rename_i kt e hu
      obtain ⟨w', s1, s2, s3, s4⟩ := mput_sound I hu h4 (chkO_rep hT h1) (chkO_rep hT h2) (chkO_rep hT h3) hx
      refine ⟨undef, w', F, m, .inr ⟨rfl, by simp [execOp, s1]⟩, s2, s3, ?_⟩
      rw [s4]
      exact .pure (.tup #[] [] rfl (fun j v l h1 _ => by simp at h1))
    · cases h4
  · -- len
    simp only [evOp] at hx
    split at hc
    · rename_i x0 t0 hxs hts
      simp only [Bool.and_eq_true] at hc
      obtain ⟨h1, h2⟩ := hc
      obtain ⟨r, hr, rfl⟩ := map_eq hx
      have e1 := toList_one hxs
      have e2 := toList_one hts
      subst e1; subst e2
      obtain ⟨v, hv, hrep⟩ := evLen_sound (P := P) (ty := ty) I h2 (chkO_rep hT h1) hr
      exact ⟨v, w, F, m, .inl (by simp [execOp, resolve, invoke, builtin, hv]), I, Tr.refl _ _ _ _, hrep⟩
    · cases hc
  · -- append
    simp only [evOp] at hx
    split at hc
    · rename_i x0 y0 t0 u0 hxs hts
      simp only [Bool.and_eq_true, decide_eq_true_eq] at hc
      obtain ⟨⟨⟨⟨h1, h2⟩, h3⟩, h4⟩, h5⟩ := hc
      have e1 := toList_two hxs
      have e2 := toList_two hts
      subst e1; subst e2
      split at h5
      · rename_i e hu
        simp only [Bool.and_eq_true, beq_iff_eq, decide_eq_true_eq] at h5
        obtain ⟨⟨⟨h6, h7⟩, h8⟩, h9⟩ := h5
        split at h9
        · rename_i i hi
          rw [Option.any_eq_true] at h9
          obtain ⟨z, hz, hzs⟩ := h9
          have hd : ∃ d, P.underlying u0 = some d ∧ ∀ k, d ≠ .int k := by
            split at h4
            · cases h4
            · rename_i d hne hd; exact ⟨d, hd, fun k e => hne k e⟩
            · cases h4
          have H : AppT P t0 u0 e _ _ := ⟨hu, h6, h3, h7, h8, ⟨i, z, hi, hz, by simpa using hzs⟩, hd⟩
          have := evApp_sound (ty := ty) I H (chkO_rep hT h1) (chkO_rep hT h2) hx
          simpa [execOp, resolve, invoke, builtin] using this
        · cases h9
      · cases h5
    · cases hc
  · -- copy
    simp only [evOp] at hx
    split at hc
    · rename_i x0 y0 t0 ts hxs hts
      simp only [Bool.and_eq_true, decide_eq_true_eq] at hc
      obtain ⟨⟨⟨h1, h2⟩, h3⟩, h4⟩ := hc
      have e1 := toList_two hxs
      subst e1
      obtain ⟨e, hu, hs⟩ := elemIs_spec h4
      have := evCpy_sound (P := P) (u := 0) (ty := ty) I hu hs h3 (ts := _) (by rw [← Array.getElem?_toList, hts]; rfl) (chkO_rep hT h1) (chkO_rep hT h2) hx
      simpa [execOp, resolve, invoke, builtin] using this
    · cases hc
  · cases hn
  · cases hn
  · cases hc

end Go.Vm
