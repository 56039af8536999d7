/- The value machine (Vd). -/
import Derived.Test.YtkcigmgchfcpkaaVc
import Derived.Shelf.Sort.Plain
set_option linter.unusedSimpArgs false
set_option linter.unusedVariables false
set_option linter.unusedSectionVars false
/- The value machine: texts sorted in place. -/
namespace Go.Vm
open Go.Sort Go.Proofs
variable {P : Program} {nm : Nat → Option Nat} {w : World} {F : Nat → Prop} {m : MapT} {h : Heap}
def yh3 : List (List AV) → Option (List (List UInt8))
  | [] => some []
  | [.str s] :: r => (yh3 r).map (s :: ·)
  | _ :: _ => none
theorem ycf : ∀ {rows : List (List AV)} {ss : List (List UInt8)}, yh3 rows = some ss → rows = ss.map fun s => [.str s]
  | [], ss, h => by injection h with h; subst h; rfl
  | [.str s] :: r, ss, h => by
    obtain ⟨l, e1, e2⟩ := Option.map_eq_some_iff.1 h
    subst e2
    rw [ycf e1]; rfl
def y3w (ss : List (List UInt8)) : List (List UInt8) := ss.mergeSort fun x y => decide (x ≤ y)
def xiS (ks : Nat) (k : Nat) (args : List AV) (_ : Nat) (h : Heap) : Option (AV × Heap) :=
  if k = ks then match args with
    | [.nils] => some (.tup [], h)
    | [.ls id g es off len] => match h[id]? with
      | some ⟨g', .arr bx false es' rows⟩ => if g' = g ∧ es = 1 ∧ es' = 1 ∧ off = 0 ∧ len = rows.length ∧ len < 4611686018427387904 then match yh3 rows with
          | some ss => some (.tup [], h.set id ⟨g, .arr bx false 1 ((y3w ss).map fun s => [.str s])⟩)
          | none => none
        else none
      | _ => none
    | _ => none
  else none
theorem ycx (ss : List (List UInt8)) : (y3w ss).Perm ss := List.mergeSort_perm ..
theorem y8g (ss : List (List UInt8)) : (y3w ss).length = ss.length := (ycx ss).length_eq
theorem Inv.grow (I : Inv nm w F m h) (n : Nat) (os : Array Obj) : Inv nm (Go.Sort.grow (Go.Sort.ahead w n) os) F m h ∧ Tr w F m (gens h) (Go.Sort.grow (Go.Sort.ahead w n) os) F m (gens h) := by
  have hsame : ∀ b, b < w.heap.size → (Go.Sort.grow (Go.Sort.ahead w n) os).heap[b]? = w.heap[b]? := fun b hb => heap_grow_old _ _ (by simpa using hb)
  have T : Tr w F m (gens h) (Go.Sort.grow (Go.Sort.ahead w n) os) F m (gens h) := ⟨rfl, rfl, rfl, by simp, fun _ h => h, fun b hb _ => hsame b hb, fun _ h => .inl h, fun _ h => .inl h, fun _ g h => ⟨g, h, Nat.le_refl _⟩, fun _ _ _ _ h _ _ => h⟩
  refine ⟨⟨fun id g loc hm => ?_, I.has, I.inj, I.fz, fun b hb => Nat.lt_of_lt_of_le (I.bd b hb) T.size⟩, T⟩
  obtain ⟨o, ho, hr⟩ := I.live id g loc hm
  exact ⟨o, ho, hr.of (hsame _ (I.blk_lt hm)) fun v a hv => hv.tr I.bd T⟩
theorem yib {ks f : Nat} (hf : ∀ g, nm g = some ks → g = f)
    (hs : ∀ (blk off cap : Nat) (ss : List (List UInt8)) (w : World), Holds encStr w blk off ss.toArray → blk < w.heap.size → ss.length < 4611686018427387904 →
      Calls P f #[.slice (some ⟨blk, off, none⟩) ss.length cap] w fun e w' => e = .returned (.tuple #[]) ∧ ∃ n os, w' = Go.Sort.grow (putRow encStr (Go.Sort.ahead w n) blk off (ss.mergeSort fun x y => decide (x ≤ y)).toArray) os)
    (h0 : ∀ w : World, Calls P f #[.slice none 0 0] w fun e w' => e = .returned (.tuple #[]) ∧ w' = w) : y4b P nm (xiS ks) := by
  intro g key args fb h x hg hx w F m vs I hn hv
  unfold xiS at hx
  split at hx
  · rename_i hk
    subst hk
    obtain rfl := hf g hg
    split at hx
    · injection hx with hx
      subst hx
      obtain ⟨v0, rfl⟩ : ∃ v0, vs = #[v0] := by
        have hn2 : vs.size = 1 := hn
        match vs, hn2 with
        | ⟨[a]⟩, _ => exact ⟨a, rfl⟩
      have k0 := hv 0 v0 .nils rfl rfl
      have : v0 = .slice none 0 0 := by
        cases k0 with
        | pure h => cases h; rfl
      subst this
      refine (h0 w).mono fun e w' he => ?_
      obtain ⟨rfl, rfl⟩ := he
      exact ⟨_, F, m, rfl, I, Tr.refl _ _ _ _, .tup _ _ rfl fun j v l h1 => by simp at h1⟩
    · rename_i id g0 es off len
      split at hx
      · rename_i g' bx es' rows ho
        split at hx
        · rename_i hc
          obtain ⟨rfl, rfl, rfl, rfl, rfl, hlen⟩ := hc
          split at hx
          · rename_i ss hss
            injection hx with hx
            subst hx
            have hrows := ycf hss
            subst hrows
            obtain ⟨v0, rfl⟩ : ∃ v0, vs = #[v0] := by
              have hn2 : vs.size = 1 := hn
              match vs, hn2 with
              | ⟨[a]⟩, _ => exact ⟨a, rfl⟩
            have k0 := hv 0 v0 _ rfl rfl
            obtain ⟨loc, hm⟩ := I.has id g' _ ho rfl
            obtain ⟨a, cap, rfl, hb, hsp, he, hoff, hcap, hlc⟩ := k0.ls_at hm
            obtain ⟨o, ho2, hrep⟩ := I.live id g' loc hm
            rw [ho] at ho2
            injection ho2 with ho2
            injection ho2 with _ ho2
            subst ho2
            obtain ⟨h1, cs, ty, fr, h2, h3, h4, h5, h6⟩ := hrep
            have hlt : loc.blk < w.heap.size := (Array.getElem?_eq_some_iff.1 h2).1
            have ea : a = ⟨loc.blk, a.off, none⟩ := by
              cases a; simp at hb hsp ⊢; exact ⟨hb, hsp⟩
            rw [List.length_map] at hlc hlen h5
            have hcell : ∀ (j : Nat) (s : List UInt8), ss[j]? = some s → cs[loc.base + j]? = some (encStr s) ∧ a.off = loc.base := by
              intro j s hj
              have hjl := (List.getElem?_eq_some_iff.1 hj).1
              obtain ⟨_, v, q1, q2⟩ := (h6 j [.str s] (by rw [List.getElem?_map, hj]; rfl)).2 0 (.str s) rfl
              have e1 : v = encStr s := by
                generalize hq : AV.str s = y at q2
                cases q2 with
                | pure h => cases h <;> cases hq <;> simp [encStr]
                | _ => cases hq
              subst e1
              refine ⟨by rw [← q1]; congr 1; omega, ?_⟩
              rw [hoff (by omega)]; omega
            have hH : Holds encStr w loc.blk a.off ss.toArray := by
              intro j hj
              have hj' : j < ss.length := by simpa using hj
              obtain ⟨q1, q2⟩ := hcell j _ (List.getElem?_eq_getElem hj')
              have hjc : loc.base + j < cs.size := (Array.getElem?_eq_some_iff.1 q1).1
              refine ⟨?_, ?_⟩
              · simp [World.cell?, h2, q2, q1, hj']
              · have := h3 (loc.base + j) hjc
                simp [World.frozen?, h2, q2]
                omega
            have hcall := hs loc.blk a.off cap ss w hH hlt hlen
            rw [List.length_map, ea]
            refine hcall.mono fun e w' hw => ?_
            obtain ⟨rfl, n, os, rfl⟩ := hw
            -- the row put, then more of the world
            have hsl := y8g ss
            have hblk : (putRow encStr w loc.blk a.off (y3w ss).toArray).heap[loc.blk]? = some (.cells (putCells encStr a.off (y3w ss).toArray cs) ty fr) := by
              simp [putRow, mapBlock, Array.getElem?_modify, h2, onCells]
            obtain ⟨m', hm', hI, hT⟩ := y76 (w' := putRow encStr w loc.blk a.off (y3w ss).toArray) (h' := h.set id ⟨g', .arr bx false 1 ((y3w ss).map fun s => [.str s])⟩) (g' := g') (o := .arr bx false 1 ((y3w ss).map fun s => [.str s])) (loc := loc) (id := id) I
              rfl rfl rfl (by simp) (fun b hne _ => by
                have : loc.blk ≠ b := fun e => hne (by simp [e])
                simp [putRow, mapBlock, Array.getElem?_modify, this]) (.inr ⟨g', loc, _, hm, ho, rfl, rfl⟩)
              (fun j hj => by rw [List.getElem?_set_ne (fun e => hj e.symm)]) (by simp [(List.getElem?_eq_some_iff.1 ho).1]) rfl (.inr hm)
              (fun m' hm' hrep => ⟨h1, _, ty, fr, hblk, by simpa [putCells] using h3, by simpa [putCells] using h4, by simpa [hsl] using h5, fun i row hi => by
                obtain ⟨s, hs1, rfl⟩ : ∃ s, (y3w ss)[i]? = some s ∧ row = [.str s] := by
                  rw [List.getElem?_map] at hi
                  obtain ⟨s, e1, e2⟩ := Option.map_eq_some_iff.1 hi
                  exact ⟨s, e1, e2.symm⟩
                have hil : i < (y3w ss).length := (List.getElem?_eq_some_iff.1 hs1).1
                refine ⟨rfl, fun j l hj => ?_⟩
                cases j with
                | succ j => simp at hj
                | zero =>
                  simp at hj
                  subst hj
                  obtain ⟨q1, q2⟩ := hcell i _ (List.getElem?_eq_getElem (show i < ss.length by omega))
                  have hjc : loc.base + i < cs.size := (Array.getElem?_eq_some_iff.1 q1).1
                  refine ⟨rfl, encStr s, ?_, .pure ?_⟩
                  · have e9 : (y3w ss)[i] = s := by
                      have := List.getElem?_eq_getElem hil
                      rw [hs1] at this
                      injection this with this
                      exact this.symm
                    rw [show loc.base + (i * 1 + 0) = loc.base + i by omega]
                    simp [putCells, Array.getElem?_mapIdx, q1, q2, hil, e9]
                  · have := PRep.str (nm := nm) (w := putRow encStr w loc.blk a.off (y3w ss).toArray) (F := F) ⟨s.toArray⟩
                    simpa [encStr] using this⟩)
            have hmm : m' = m := by
              rw [hm']
              funext j
              split
              · rename_i e; rw [e]; exact hm.symm
              · rfl
            rw [hmm] at hI hT
            obtain ⟨hI2, hT2⟩ := hI.grow n os
            exact ⟨_, F, m, rfl, hI2, hT.trans hT2, .tup _ _ rfl fun j v l h1 => by simp at h1⟩
          · cases hx
        · cases hx
      · cases hx
    · cases hx
  · cases hx
theorem yph {ks : Nat} {ρ : Go.Shelf.Ren} (Ly : Go.Proofs.Lays.n192 P ρ) (hf : ∀ g, nm g = some ks → g = ρ.f 192)
    (h0 : ∀ w : World, Calls P (ρ.f 192) #[.slice none 0 0] w fun e w' => e = .returned (.tuple #[]) ∧ w' = w) : y4b P nm (xiS ks) :=
  yib hf (fun blk off cap ss w h1 h2 h3 => Go.Proofs.Any.sort_Strings Ly blk off cap ss w h1 h2 h3) h0
def envI (fnE : Nat → Option CFunc) (imp : List Nat) (xp : Nat → List AV → Option (Ex AV)) (xi : Nat → List AV → Nat → Heap → Option (AV × Heap)) : Env := ⟨fnE, fun k => !imp.contains k, xp, xi⟩
theorem y17o {tbl : List (Option Nat)} {fnE : Nat → Option CFunc} {imp : List Nat} {xp : Nat → List AV → Option (Ex AV)} {xi : Nat → List AV → Nat → Heap → Option (AV × Heap)} (hm : P.follows .mixedOrders = true) (h : AllF P (nmOf tbl) fnE 0 tbl) (hx : y24 P (nmOf tbl) xp) (hi : y4b P (nmOf tbl) xi) :
    EnvOk P (nmOf tbl) (envI fnE imp xp xi) := by
  have E := y17x (imp := imp) hm h hx
  refine ⟨E.ok, E.fn, E.xp, fun f k args fb h x hk hx => ?_⟩
  by_cases hs : (fnE k).isSome = true <;> simp [envI, hs] at hx
  exact hi f k args fb h x hk hx
end Go.Vm
