/-
  Worlds: cells read, cells written, blocks made.
-/
import Derived.Test.YticmjjeicpejcaaAiPure6
set_option linter.unusedVariables false
set_option linter.unusedSimpArgs false
namespace Go.Ai
section
variable {ρ : Rho} {I : Nat → Prop} {P : Program}

theorem cell?_of {w : World} {b o : Nat} {c : Array Value} {E : TypeId} {fz : Nat × Nat} (h : w.heap[b]? = some (.cells c E fz)) : w.cell? ⟨b, o, none⟩ = c[o]? := by
  simp [World.cell?, h]
theorem frozen?_of {w : World} {b o : Nat} {c : Array Value} {E : TypeId} (h : w.heap[b]? = some (.cells c E (0, 0))) : w.frozen? ⟨b, o, none⟩ = false := by
  simp [World.frozen?, h]

theorem run_load_cells {w : World} {b o : Nat} {vs : List Value} (h : Lies w.heap b o vs) : (loadCells ⟨b, o, none⟩ vs.length).run P w = .ok vs.toArray w := by
  obtain ⟨c, E, fz, h1, h2⟩ := h
  refine run_loadCells_list w _ vs (fun j v hv => ?_)
  rw [add_none, cell?_of h1]
  exact (h2 j v hv).1

/-- A variable read. -/
theorem run_loadVar {t : TypeId} {e : EK} (he : ekOf P t = some e) {w : World} {b o : Nat} {cs : List AV} {vs : List Value} {hp : Hp} {v : AV} (hp' : pack e cs = some v) (hr : RVs ρ I hp cs vs) (hl : Lies w.heap b o vs) :
    ∃ cv, (loadVar t ⟨b, o, none⟩).run P w = .ok cv w ∧ RV ρ I hp v cv := by
  obtain ⟨d, i, hd, hi, h1, h2, h3, h4⟩ := ekOf_spec he
  have hc : allCells vs := by
    obtain ⟨c, E, fz, g1, g2⟩ := hl
    intro u hu
    obtain ⟨j, hj⟩ := List.mem_iff_getElem?.1 hu
    exact (g2 j u hj).2
  have hs := pack_sound hp' hr hc
  cases ha : e.agg with
  | true =>
    rw [ha] at hs
    simp only [if_true] at hs
    refine ⟨_, ?_, hs.2⟩
    have := run_load_cells (P := P) hl
    rw [hs.1] at this
    simp [loadVar, run_isAgg' hd, h1, ha, run_sizeOf' hi, h2, this]
  | false =>
    rw [ha] at hs
    simp only [Bool.false_eq_true, if_false] at hs
    obtain ⟨x, rfl, hv⟩ := hs
    refine ⟨x, ?_, hv⟩
    obtain ⟨c, E, fz, g1, g2⟩ := hl
    have hcell : w.cell? ⟨b, o, none⟩ = some x := by rw [cell?_of g1]; exact (g2 0 x rfl).1
    simp [loadVar, run_isAgg' hd, h1, ha, run_load, hcell]

/-- A block, put in a block's place. -/
def setBlock (w : World) (b : Nat) (o : Obj) : World := { w with heap := w.heap.setIfInBounds b o }

theorem setCell_block {w : World} {b o : Nat} {c : Array Value} {E : TypeId} {fz : Nat × Nat} (h : w.heap[b]? = some (.cells c E fz)) (v : Value) :
    w.setCell ⟨b, o, none⟩ v = setBlock w b (.cells (c.setIfInBounds o v) E fz) := by
  have hlt : b < w.heap.size := by
    rcases Nat.lt_or_ge b w.heap.size with g | g
    · exact g
    · rw [Array.getElem?_eq_none g] at h; cases h
  unfold World.setCell setBlock
  congr 1
  apply Array.ext_getElem?
  intro j
  rw [Array.getElem?_modify, Array.getElem?_setIfInBounds]
  by_cases hj : b = j
  · subst hj
    have hg : w.heap[b] = .cells c E fz := by rw [Array.getElem?_eq_getElem hlt] at h; exact Option.some.inj h
    simp [hlt, hg]
  · simp [hj]

theorem setBlock_get {w : World} {b : Nat} (o : Obj) (h : b < w.heap.size) : (setBlock w b o).heap[b]? = some o := by
  simp [setBlock, h]
theorem setBlock_ne {w : World} {b j : Nat} (o : Obj) (h : j ≠ b) : (setBlock w b o).heap[j]? = w.heap[j]? := by
  simp only [setBlock]
  rw [Array.getElem?_setIfInBounds]
  rw [if_neg (fun e => h e.symm)]
theorem setBlock_size {w : World} {b : Nat} (o : Obj) : (setBlock w b o).heap.size = w.heap.size := by simp [setBlock]
theorem setBlock_twice {w : World} {b : Nat} (o o' : Obj) : setBlock (setBlock w b o) b o' = setBlock w b o' := by
  simp only [setBlock]
  congr 1
  apply Array.ext_getElem?
  intro j
  simp only [Array.getElem?_setIfInBounds, Array.size_setIfInBounds]
  split <;> rfl

theorem block_lt {hp : Hp} {b : Nat} {o : Obj} (h : hp[b]? = some o) : b < hp.size := by
  rcases Nat.lt_or_ge b hp.size with g | g
  · exact g
  · rw [Array.getElem?_eq_none g] at h; cases h

theorem run_store_one {w : World} {b o : Nat} {c : Array Value} {E : TypeId} (h : w.heap[b]? = some (.cells c E (0, 0))) (v : Value) (hv : v.oneCell' = true) (ho : o < c.size) :
    (store ⟨b, o, none⟩ v).run P w = .ok () (setBlock w b (.cells (c.setIfInBounds o v) E (0, 0))) := by
  rw [run_store _ _ _ _ _ hv, cell?_of h, Array.getElem?_eq_getElem ho]
  simp only
  rw [frozen?_of h]
  simp [setCell_block h]

theorem run_storeCells : ∀ (vs : List Value) (i : Nat) (w : World) (b o : Nat) (c : Array Value) (E : TypeId), w.heap[b]? = some (.cells c E (0, 0)) → allCells vs → o + i + vs.length ≤ c.size →
    ∃ c', (storeCells ⟨b, o, none⟩ vs i).run P w = .ok () (setBlock w b (.cells c' E (0, 0))) ∧ c'.toList = c.toList.take (o + i) ++ vs ++ c.toList.drop (o + i + vs.length)
  | [], i, w, b, o, c, E, h, _, _ => by
    refine ⟨c, ?_, by simp⟩
    simp only [storeCells, Sem.run_pure]
    congr 1
    unfold setBlock
    have hlt := block_lt h
    cases w
    simp only at h hlt ⊢
    congr 1
    apply Array.ext_getElem?
    intro j
    rw [Array.getElem?_setIfInBounds]
    split
    · subst_vars; exact h
    · rfl
  | v :: vs, i, w, b, o, c, E, h, hc, hfit => by
    simp only [List.length_cons] at hfit
    have h1 := run_store_one (P := P) (o := o + i) h v (hc v (by simp)) (by omega)
    have hlt := block_lt h
    obtain ⟨c', h2, h3⟩ := run_storeCells vs (i + 1) (setBlock w b (.cells (c.setIfInBounds (o + i) v) E (0, 0))) b o (c.setIfInBounds (o + i) v) E (setBlock_get _ hlt) (fun u hu => hc u (by simp [hu])) (by simp; omega)
    refine ⟨c', ?_, ?_⟩
    · simp only [storeCells, Sem.run_bind, add_none, h1, Result.andThen_ok, h2, setBlock_twice]
    · rw [h3]
      simp only [Array.toList_setIfInBounds]
      have hlt : o + i < c.toList.length := by simp; omega
      rw [show o + (i + 1) = o + i + 1 by omega, List.take_succ_eq_append_getElem (by simp; omega)]
      rw [List.take_set_of_le (Nat.le_refl _), List.getElem_set_self, List.drop_set_of_lt (by omega)]
      simp only [List.append_assoc, List.singleton_append, List.cons_append, List.length_cons, List.nil_append]
      rw [show o + i + 1 + vs.length = o + i + (vs.length + 1) by omega]
end
end Go.Ai
