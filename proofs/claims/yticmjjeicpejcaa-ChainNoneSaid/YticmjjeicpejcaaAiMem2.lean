/-
  The operations that look at memory, or make or change an object.
-/
import Derived.Test.YticmjjeicpejcaaAiMem
set_option linter.unusedVariables false
set_option linter.unusedSimpArgs false
namespace Go.Ai

structure Ok (ρ : Rho) (I : Nat → Prop) (h : AH) (hp : Hp) : Prop where
  rel : Rel ρ I h.heap hp
  fresh : ∀ id, h.next ≤ id → h.heap id = none
  lockle : h.lock ≤ h.next

/-- Nothing but memory, and how many draws there were, has changed. -/
structure Quiet (w w' : World) : Prop where
  os : w'.os = w.os
  output : w'.output = w.output
  tape : w'.tape = w.tape
theorem Quiet.refl (w : World) : Quiet w w := ⟨rfl, rfl, rfl⟩
theorem Quiet.trans {a b c : World} (x : Quiet a b) (y : Quiet b c) : Quiet a c := ⟨y.os.trans x.os, y.output.trans x.output, y.tape.trans x.tape⟩

/-- What an operation does: it gives a value that the abstract one stands for, and keeps what a step keeps. -/
def Does (P : Program) (ρ : Rho) (I : Nat → Prop) (h : AH) (s : Sem Next) (v : AV) (h' : AH) (w : World) : Prop :=
  ∃ ρ' I' w' cv, (s.run P w = .ok (.value cv) w' ∨ (s.run P w = .ok .skip w' ∧ cv = undef)) ∧ RV ρ' I' w'.heap v cv ∧ Ext ρ I h w.heap ρ' I' h' w'.heap ∧ Quiet w w'

section
variable {ρ : Rho} {I : Nat → Prop} {P : Program} {h h' : AH} {w : World}

theorem Does.same (ok : Ok ρ I h w.heap) {s : Sem Value} {v : AV} {cv : Value} (hr : s.run P w = .ok cv w) (hv : RV ρ I w.heap v cv) :
    Does P ρ I h (do pure (.value (← s))) v h w :=
  ⟨ρ, I, w, cv, .inl (by simp [hr]), hv, .refl ok.rel ok.fresh, .refl _⟩

/-- An object's cells, as they lie. -/
theorem cells_lie (ok : Ok ρ I h w.heap) {id b o : Nat} {cs : List AV} (hρ : ρ id = some (b, o)) (hc : h.cells? id = some cs) :
    ∃ arr E vs, w.heap[b]? = some (Obj.cells arr E (0, 0)) ∧ RVs ρ I w.heap cs vs ∧ (∀ j v, vs[j]? = some v → arr[o + j]? = some v ∧ v.oneCell' = true) ∧ h.heap id = some (.cells cs) := by
  unfold AH.cells? at hc
  split at hc
  · rename_i cs' hob
    cases hc
    obtain ⟨arr, E, vs, h1, h2, h3⟩ := ok.rel.obj id b o _ hρ hob
    exact ⟨arr, E, vs, h1, h2, h3, hob⟩
  · cases hc

theorem lies_drop {hp : Hp} {b o : Nat} {arr : Array Value} {E : TypeId} {vs : List Value} (h1 : hp[b]? = some (Obj.cells arr E (0, 0))) (h2 : ∀ j v, vs[j]? = some v → arr[o + j]? = some v ∧ v.oneCell' = true)
    (n m : Nat) : Lies hp b (o + n) ((vs.drop n).take m) := by
  refine ⟨arr, E, (0, 0), h1, fun j v hv => ?_⟩
  rw [List.getElem?_take] at hv
  split at hv
  · rw [List.getElem?_drop] at hv
    rw [Nat.add_assoc]
    exact h2 _ v hv
  · cases hv

theorem lies_take {hp : Hp} {b o : Nat} {vs : List Value} (h : Lies hp b o vs) (m : Nat) : Lies hp b o (vs.take m) := by
  obtain ⟨c, E, fz, h1, h2⟩ := h
  refine ⟨c, E, fz, h1, fun j v hv => ?_⟩
  rw [List.getElem?_take] at hv
  split at hv
  · exact h2 j v hv
  · cases hv

theorem load_does (ok : Ok ρ I h w.heap) {t : TypeId} {e : EK} (he : ekOf P t = some e) {x : AV} {X : Value} (hx : RV ρ I w.heap x X) {sl : List AV} {ax : Arg} (ex : ax.val sl = x) {v : AV}
    (hv : memV sl h (.load e ax) = some (v, h')) : h' = h ∧ ∃ cv, (Instr.loadAt t X).run P w = .ok cv w ∧ RV ρ I w.heap v cv := by
  simp only [memV, ex] at hv
  cases x <;> simp only [reduceCtorEq] at hv
  case iptr cs =>
    obtain ⟨u, hu, hv⟩ := map_some' hv
    cases hv
    obtain ⟨b, o, vs, rfl, hI, hl, hr⟩ := hx
    obtain ⟨cv, c1, c2⟩ := run_loadVar he hu (RVs_take hr _) (lies_take hl _)
    exact ⟨rfl, cv, by simpa [Instr.loadAt, Instr.sureAddr] using c1, c2⟩
  case ptr id off =>
    obtain ⟨cs, hcs, hv⟩ := bind_some' hv
    obtain ⟨u, hu, hv⟩ := map_some' hv
    cases hv
    obtain ⟨b, o, hρ, rfl⟩ := hx
    obtain ⟨arr, E, vs, h1, h2, h3, _⟩ := cells_lie ok hρ hcs
    obtain ⟨cv, c1, c2⟩ := run_loadVar he hu (RVs_take (RVs_drop h2 off) _) (lies_drop h1 h3 off _)
    exact ⟨rfl, cv, by simpa [Instr.loadAt, Instr.sureAddr] using c1, c2⟩

theorem ShapeLe.setBlock {w : World} {b : Nat} {c c' : Array Value} {E : TypeId} {fz fz' : Nat × Nat} (h : w.heap[b]? = some (.cells c E fz)) (hs : c'.size = c.size) :
    ShapeLe w.heap (Ai.setBlock w b (.cells c' E fz')).heap := by
  intro j x F gz hj
  by_cases hjb : j = b
  · subst hjb
    rw [h] at hj
    cases hj
    exact ⟨c', fz', setBlock_get _ (block_lt h), hs⟩
  · exact ⟨x, gz, by rw [setBlock_ne _ hjb]; exact hj, rfl⟩

theorem set_lock {id : Nat} {o : Option AObj} (hs : h.set id o = some h') : h.lock ≤ id ∧ h' = { h with heap := h.heap.put id o } := by
  unfold AH.set at hs
  obtain ⟨h1, h2⟩ := bif_some hs
  exact ⟨Nat.le_of_ble_eq_true h1, (Option.some.inj h2).symm⟩

/-- Some of an object's cells are written. -/
theorem write_does (ok : Ok ρ I h w.heap) {id b o off : Nat} {cs new cs' : List AV} {vs : List Value} (hρ : ρ id = some (b, o)) (hcs : h.cells? id = some cs) (hsp : splice cs off new = some cs')
    (hset : h.set id (some (.cells cs')) = some h') (hnew : RVs ρ I w.heap new vs) (hcell : allCells vs) :
    ∃ w', (storeCells ⟨b, o + off, none⟩ vs).run P w = .ok () w' ∧ Ext ρ I h w.heap ρ I h' w'.heap ∧ Quiet w w' := by
  obtain ⟨arr, E, us, h1, h2, h3, h4⟩ := cells_lie ok hρ hcs
  unfold splice at hsp
  obtain ⟨hle, hsp⟩ := bif_some hsp
  cases hsp
  have hle := Nat.le_of_ble_eq_true hle
  have l1 := RVs_length _ _ hnew
  have l2 := RVs_length _ _ h2
  have hfit : ∀ j, j < us.length → o + j < arr.size := by
    intro j hj
    obtain ⟨g, _⟩ := h3 j us[j] (List.getElem?_eq_getElem hj)
    rcases Nat.lt_or_ge (o + j) arr.size with k | k
    · exact k
    · rw [Array.getElem?_eq_none k] at g; cases g
  by_cases hempty : vs = []
  · subst hempty
    have : new = [] := by simpa using l1.symm
    subst this
    refine ⟨w, rfl, ?_, .refl _⟩
    simp only [List.length_nil, Nat.add_zero, List.append_nil, List.take_append_drop] at hset
    refine Ext.set ok.rel ok.fresh w.heap hset hρ (by rw [h4]; simp) rfl (fun _ _ => rfl) (.refl _) ?_
    exact ⟨arr, E, us, h1, h2, h3⟩
  · have hpos : 0 < vs.length := List.length_pos_iff.2 hempty
    have hle' : o + off + vs.length ≤ arr.size := by
      have := hfit (off + vs.length - 1) (by omega)
      omega
    obtain ⟨c', r1, r2⟩ := run_storeCells (P := P) vs 0 w b (o + off) arr E h1 hcell (by omega)
    have hsz : c'.size = arr.size := by
      have := congrArg List.length r2
      simp only [Array.length_toList, List.length_append, List.length_take, List.length_drop, Nat.add_zero] at this
      omega
    refine ⟨_, r1, ?_, rfl, rfl, rfl⟩
    have hlt := block_lt h1
    have hsh : ShapeLe w.heap (setBlock w b (.cells c' E (0, 0))).heap := ShapeLe.setBlock h1 hsz
    have hIb : ¬ I b := ok.rel.apart id b o hρ (by rw [h4]; simp)
    have mono : ∀ {a v}, RVs ρ I w.heap a v → RVs ρ I (setBlock w b (.cells c' E (0, 0))).heap a v := fun {a v} hv =>
      RVs_mono (fun _ _ h => h) (fun _ h => h) (fun j hj => setBlock_ne (b := b) _ (fun e => hIb (by rw [← e]; exact hj))) hsh a v hv
    refine Ext.set ok.rel ok.fresh _ hset hρ (by rw [h4]; simp) (setBlock_size _) (fun j hj => setBlock_ne _ hj) hsh ?_
    refine ⟨c', E, us.take off ++ vs ++ us.drop (off + vs.length), setBlock_get _ hlt, ?_, ?_⟩
    · rw [l1]
      exact mono (RVs_append (RVs_append (RVs_take h2 _) hnew) (RVs_drop h2 _))
    · intro j v hv
      have hc'get : ∀ k, c'[k]? = c'.toList[k]? := fun k => by rw [Array.getElem?_toList]
      rw [hc'get, r2, Nat.add_zero]
      have lt : (arr.toList.take (o + off)).length = o + off := by simp; omega
      have lu : (us.take off).length = off := by simp; omega
      by_cases c1 : j < off
      · rw [List.append_assoc, List.getElem?_append_left (by omega), List.getElem?_take, if_pos c1] at hv
        rw [List.append_assoc, List.getElem?_append_left (by omega), List.getElem?_take, if_pos (by omega), Array.getElem?_toList]
        exact h3 j v hv
      · by_cases c2 : j < off + vs.length
        · rw [List.append_assoc, List.getElem?_append_right (by omega), List.getElem?_append_left (by omega), lu] at hv
          rw [List.append_assoc, List.getElem?_append_right (by omega), List.getElem?_append_left (by omega), lt]
          rw [show o + j - (o + off) = j - off by omega]
          exact ⟨hv, hcell v (List.mem_of_getElem? hv)⟩
        · rw [List.getElem?_append_right (by simp; omega)] at hv
          rw [List.getElem?_append_right (by simp; omega)]
          simp only [List.length_append, lt, lu] at hv ⊢
          rw [List.getElem?_drop] at hv ⊢
          rw [Array.getElem?_toList]
          have := h3 _ v hv
          rw [show o + off + vs.length + (o + j - (o + off + vs.length)) = o + (off + vs.length + (j - (off + vs.length))) by omega]
          exact this

theorem store_does (ok : Ok ρ I h w.heap) {t : TypeId} {e : EK} (he : ekOf P t = some e) {x y : AV} {X Y : Value} (hx : RV ρ I w.heap x X) (hy : RV ρ I w.heap y Y) {sl : List AV} {ax ay : Arg} (ex : ax.val sl = x) (ey : ay.val sl = y) {v : AV}
    (hv : memV sl h (.store e.size ax ay) = some (v, h')) : v = .undef ∧ ∃ w', (Instr.storeAt t X Y).run P w = .ok () w' ∧ Ext ρ I h w.heap ρ I h' w'.heap ∧ Quiet w w' := by
  simp only [memV, ex, ey] at hv
  cases x <;> simp only [reduceCtorEq] at hv
  rename_i id off
  obtain ⟨hb, hv⟩ := bif_some hv
  simp only [Bool.and_eq_true] at hb
  obtain ⟨cs, hcs, hv⟩ := bind_some' hv
  obtain ⟨cs', hsp, hv⟩ := bind_some' hv
  obtain ⟨h1, hset, hv⟩ := bind_some' hv
  cases hv
  obtain ⟨b, o, hρ, rfl⟩ := hx
  obtain ⟨g1, g2⟩ := RV_cells hy hb.1
  obtain ⟨d, i, hd, hi, _, h2, _, _⟩ := ekOf_spec he
  obtain ⟨w', r1, r2⟩ := write_does (P := P) ok hρ hcs hsp hset g1 g2
  refine ⟨rfl, w', ?_, r2⟩
  have hsz : ¬ (Y.cells.size ≠ i.size) := by
    have := RVs_length _ _ g1
    rw [Array.length_toList, Nat.eq_of_beq_eq_true hb.2] at this
    omega
  have hsz' : Y.cells.size = i.size := by omega
  simp [Instr.storeAt, Instr.sureAddr, storeVar, run_sizeOf' hi, hsz', r1]
end
end Go.Ai
