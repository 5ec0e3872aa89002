/-
  The heap's relation, what one step keeps, and the steps that make, change or let go of an object.
-/
import Derived.Test.YticmjjeicpejcaaAiRel
namespace Go.Ai

/-- The stamps of a map's entries. -/
structure Borns (ents : Array MapEntry) (clock : Nat) : Prop where
  nodup : (ents.toList.map (·.born)).Nodup
  lt : ∀ e ∈ ents.toList, e.born < clock
theorem Borns.empty : Borns #[] 0 := ⟨by simp, by simp⟩
theorem Borns.push {ents : Array MapEntry} {clock : Nat} (h : Borns ents clock) (X Y : Value) : Borns (ents.push { key := X, val := Y, born := clock }) (clock + 1) where
  nodup := by
    simp only [Array.toList_push, List.map_append, List.map_cons, List.map_nil]
    rw [List.nodup_append]
    refine ⟨h.nodup, by simp, fun a ha b hb => ?_⟩
    obtain ⟨e, he, rfl⟩ := List.mem_map.1 ha
    simp only [List.mem_singleton] at hb
    have := h.lt e he
    omega
  lt := fun e he => by
    simp only [Array.toList_push, List.mem_append, List.mem_singleton] at he
    rcases he with he | rfl
    · have := h.lt e he; omega
    · simp
theorem Borns.modify {ents : Array MapEntry} {clock : Nat} (h : Borns ents clock) (j : Nat) (X Y : Value) : Borns (ents.modify j fun e => { e with key := X, val := Y }) clock := by
  have hb : (ents.modify j fun e => { e with key := X, val := Y }).toList.map (·.born) = ents.toList.map (·.born) := by
    apply List.ext_getElem?
    intro n
    rw [List.getElem?_map, Array.getElem?_toList, Array.getElem?_modify, List.getElem?_map, Array.getElem?_toList]
    by_cases hn : j = n
    · subst hn; cases ents[j]? <;> simp
    · simp [hn]
  refine ⟨by rw [hb]; exact h.nodup, fun e he => ?_⟩
  have : e.born ∈ (ents.modify j fun e => { e with key := X, val := Y }).toList.map (·.born) := List.mem_map_of_mem he
  rw [hb] at this
  obtain ⟨e', he', e2⟩ := List.mem_map.1 this
  have := h.lt e' he'
  omega
theorem Borns.erase {ents : Array MapEntry} {clock : Nat} (h : Borns ents clock) (j : Nat) : Borns (ents.eraseIdxIfInBounds j) clock := by
  have hs : (ents.eraseIdxIfInBounds j).toList.Sublist ents.toList := by
    unfold Array.eraseIdxIfInBounds
    split
    · rw [Array.toList_eraseIdx]
      exact List.eraseIdx_sublist ..
    · exact List.Sublist.refl _
  exact ⟨(hs.map _).nodup h.nodup, fun e he => h.lt e (hs.subset he)⟩


/-- How an object lies at a block. -/
def ObjOk (ρ : Rho) (I : Nat → Prop) (hp : Hp) (b o : Nat) : AObj → Prop
  | .cells cs => ∃ arr E vs, hp[b]? = some (Obj.cells arr E (0, 0)) ∧ RVs ρ I hp cs vs ∧ ∀ j v, vs[j]? = some v → arr[o + j]? = some v ∧ v.oneCell' = true
  | .map ks vs => o = 0 ∧ ∃ ents clock, hp[b]? = some (Obj.map ents clock) ∧ Borns ents clock ∧ RVs ρ I hp ks (ents.toList.map (·.key)) ∧ RVs ρ I hp vs (ents.toList.map (·.val))

structure Rel (ρ : Rho) (I : Nat → Prop) (H : AHeap) (hp : Hp) : Prop where
  imm : ∀ b, I b → b < hp.size
  apart : ∀ id b o, ρ id = some (b, o) → H id ≠ none → ¬ I b
  obj : ∀ id b o ob, ρ id = some (b, o) → H id = some ob → ObjOk ρ I hp b o ob
  inj : ∀ id id' b o o', ρ id = some (b, o) → ρ id' = some (b, o') → H id ≠ none → H id' ≠ none → id = id'

/-- The blocks that may be written. -/
def Own (ρ : Rho) (h : AH) (b : Nat) : Prop := ∃ id o, ρ id = some (b, o) ∧ h.heap id ≠ none ∧ h.lock ≤ id

structure Ext (ρ : Rho) (I : Nat → Prop) (h : AH) (hp : Hp) (ρ' : Rho) (I' : Nat → Prop) (h' : AH) (hp' : Hp) : Prop where
  rel : Rel ρ' I' h'.heap hp'
  next : h.next ≤ h'.next
  lock : h'.lock = h.lock
  rho : ∀ id, ¬ (h.next ≤ id ∧ id < h'.next) → ρ' id = ρ id
  imm : ∀ b, I b → I' b
  own : ∀ b, b < hp.size → I' b → I b ∨ Own ρ h b
  ownρ : ∀ id b o, h.next ≤ id → id < h'.next → ρ' id = some (b, o) → b < hp.size → Own ρ h b
  size : hp.size ≤ hp'.size
  frame : ∀ b, b < hp.size → ¬ Own ρ h b → hp'[b]? = hp[b]?
  shape : ShapeLe hp hp'
  dead : ∀ id, id < h.next → h.heap id = none → h'.heap id = none
  low : ∀ id, id < h.lock → h'.heap id = h.heap id
  fresh : ∀ id, h'.next ≤ id → h'.heap id = none

theorem nbeq_ne {a b : Nat} (h : a ≠ b) : Nat.beq a b = false := by
  cases e : Nat.beq a b
  · rfl
  · exact absurd (Nat.eq_of_beq_eq_true e) h
theorem AHeap.put_same (H : AHeap) (id : Nat) (o : Option AObj) : (H.put id o) id = o := by simp [AHeap.put]
theorem AHeap.put_ne (H : AHeap) {id j : Nat} (o : Option AObj) (h : j ≠ id) : (H.put id o) j = H j := by simp [AHeap.put, nbeq_ne h]
theorem AH.new_same (h : AH) (o : AObj) : (h.new o).heap h.next = some o := AHeap.put_same _ _ _
theorem AH.new_ne (h : AH) {j : Nat} (o : AObj) (hj : j ≠ h.next) : (h.new o).heap j = h.heap j := AHeap.put_ne _ _ hj

theorem ShapeLe.refl (hp : Hp) : ShapeLe hp hp := fun _ c _ fz h => ⟨c, fz, h, rfl⟩
theorem ShapeLe.trans {a b c : Hp} (h : ShapeLe a b) (g : ShapeLe b c) : ShapeLe a c := by
  intro n x E fz hx
  obtain ⟨y, fy, h1, h2⟩ := h n x E fz hx
  obtain ⟨z, fz', h3, h4⟩ := g n y E fy h1
  exact ⟨z, fz', h3, by omega⟩

section
variable {ρ ρ' ρ'' : Rho} {I I' I'' : Nat → Prop} {h h' h'' : AH} {hp hp' hp'' : Hp}

theorem Rel.block_lt (hr : Rel ρ I h.heap hp) {id b o : Nat} (h1 : ρ id = some (b, o)) (h2 : h.heap id ≠ none) : b < hp.size := by
  cases hob : h.heap id with
  | none => exact absurd hob h2
  | some ob =>
    have := hr.obj id b o ob h1 hob
    cases ob with
    | cells cs =>
      obtain ⟨arr, E, vs, e, _⟩ := this
      rcases Nat.lt_or_ge b hp.size with h | h
      · exact h
      · simp [Array.getElem?_eq_none h] at e
    | map ks vs =>
      obtain ⟨_, ents, clock, e, _⟩ := this
      rcases Nat.lt_or_ge b hp.size with h | h
      · exact h
      · simp [Array.getElem?_eq_none h] at e

theorem Rel.not_own (hr : Rel ρ I h.heap hp) {b : Nat} (hb : I b) : ¬ Own ρ h b := by
  rintro ⟨id, o, h1, h2, _⟩
  exact hr.apart id b o h1 h2 hb

/-- What stands for a value goes on to do so. -/
theorem Ext.rho_le (he : Ext ρ I h hp ρ' I' h' hp') (hn : ∀ id, h.next ≤ id → id < h'.next → ρ id = none) : ∀ id p, ρ id = some p → ρ' id = some p := by
  intro id p hp
  rw [he.rho id ?_]
  · exact hp
  · rintro ⟨h1, h2⟩
    rw [hn id h1 h2] at hp
    cases hp

theorem Ext.RV (he : Ext ρ I h hp ρ' I' h' hp') (hr : Rel ρ I h.heap hp) (hn : ∀ id, h.next ≤ id → id < h'.next → ρ id = none) {a : AV} {v : Value}
    (hv : RV ρ I hp a v) : Ai.RV ρ' I' hp' a v :=
  RV_mono (he.rho_le hn) he.imm (fun b hb => he.frame b (hr.imm b hb) (hr.not_own hb)) he.shape a v hv

theorem Ext.RVs (he : Ext ρ I h hp ρ' I' h' hp') (hr : Rel ρ I h.heap hp) (hn : ∀ id, h.next ≤ id → id < h'.next → ρ id = none) {a : List AV} {v : List Value}
    (hv : RVs ρ I hp a v) : Ai.RVs ρ' I' hp' a v :=
  RVs_mono (he.rho_le hn) he.imm (fun b hb => he.frame b (hr.imm b hb) (hr.not_own hb)) he.shape a v hv

theorem Ext.refl (hr : Rel ρ I h.heap hp) (hf : ∀ id, h.next ≤ id → h.heap id = none) : Ext ρ I h hp ρ I h hp where
  rel := hr
  next := Nat.le_refl _
  lock := rfl
  rho := fun _ _ => rfl
  imm := fun _ h => h
  own := fun _ _ h => .inl h
  ownρ := fun id b o h1 h2 => by omega
  size := Nat.le_refl _
  frame := fun _ _ _ => rfl
  shape := .refl _
  dead := fun _ _ h => h
  low := fun _ _ => rfl
  fresh := hf

theorem Ext.own_back (he : Ext ρ I h hp ρ' I' h' hp') {b : Nat} (hb : b < hp.size) (ho : Own ρ' h' b) : Own ρ h b := by
  obtain ⟨id, o, h1, h2, h3⟩ := ho
  by_cases hin : h.next ≤ id ∧ id < h'.next
  · exact he.ownρ id b o hin.1 hin.2 h1 hb
  · rw [he.rho id hin] at h1
    have hlt : id < h.next := by
      rcases Nat.lt_or_ge id h.next with h | h
      · exact h
      · exact absurd (he.fresh id (by omega)) h2
    exact ⟨id, o, h1, fun e => h2 (he.dead id hlt e), by rw [← he.lock]; exact h3⟩

theorem Ext.trans (he : Ext ρ I h hp ρ' I' h' hp') (he' : Ext ρ' I' h' hp' ρ'' I'' h'' hp'') : Ext ρ I h hp ρ'' I'' h'' hp'' where
  rel := he'.rel
  next := Nat.le_trans he.next he'.next
  lock := he'.lock.trans he.lock
  rho := fun id hid => by
    have h1 := he.next
    have h2 := he'.next
    rw [he'.rho id (by omega), he.rho id (by omega)]
  imm := fun b hb => he'.imm b (he.imm b hb)
  own := fun b hb hi => by
    rcases he'.own b (by have := he.size; omega) hi with h1 | h1
    · exact he.own b hb h1
    · exact .inr (he.own_back hb h1)
  ownρ := fun id b o h1 h2 h3 hb => by
    by_cases hin : h'.next ≤ id
    · exact he.own_back hb (he'.ownρ id b o hin h2 h3 (by have := he.size; omega))
    · rw [he'.rho id (by omega)] at h3
      exact he.ownρ id b o h1 (by omega) h3 hb
  size := Nat.le_trans he.size he'.size
  frame := fun b hb hno => by
    rw [he'.frame b (by have := he.size; omega) (fun ho => hno (he.own_back hb ho)), he.frame b hb hno]
  shape := he.shape.trans he'.shape
  dead := fun id hid e => he'.dead id (by have := he.next; omega) (he.dead id hid e)
  low := fun id hid => by rw [he'.low id (by rw [he.lock]; exact hid), he.low id hid]
  fresh := he'.fresh

/-! ### A new object, a new immutable block, a change -/
def Rho.put (ρ : Rho) (id : Nat) (p : Nat × Nat) : Rho := fun j => if j = id then some p else ρ j

theorem getElem?_push_lt' {α : Type} (a : Array α) (x : α) (i : Nat) (h : i < a.size) : (a.push x)[i]? = a[i]? := by
  rw [Array.getElem?_push]
  rw [if_neg (by omega)]

theorem ShapeLe.push (hp : Hp) (o : Obj) : ShapeLe hp (hp.push o) := by
  intro b c E fz hb
  have : b < hp.size := by
    rcases Nat.lt_or_ge b hp.size with h | h
    · exact h
    · simp [Array.getElem?_eq_none h] at hb
  exact ⟨c, fz, by rw [getElem?_push_lt' _ _ _ this]; exact hb, rfl⟩

theorem ObjOk_mono (hρ : ∀ id p, ρ id = some p → ρ' id = some p) (hI : ∀ b, I b → I' b) (hw : ∀ b, I b → hp'[b]? = hp[b]?) (hs : ShapeLe hp hp')
    {b o : Nat} {ob : AObj} (hb : hp'[b]? = hp[b]?) (h : ObjOk ρ I hp b o ob) : ObjOk ρ' I' hp' b o ob := by
  cases ob with
  | cells cs =>
    obtain ⟨arr, E, vs, h1, h2, h3⟩ := h
    exact ⟨arr, E, vs, hb.trans h1, RVs_mono hρ hI hw hs cs vs h2, h3⟩
  | map ks vs =>
    obtain ⟨h0, ents, clock, h1, hbn, h2, h3⟩ := h
    exact ⟨h0, ents, clock, hb.trans h1, hbn, RVs_mono hρ hI hw hs ks _ h2, RVs_mono hρ hI hw hs vs _ h3⟩

/-- A new immutable block. -/
theorem Ext.newImm (hr : Rel ρ I h.heap hp) (hf : ∀ id, h.next ≤ id → h.heap id = none) (o : Obj) :
    Ext ρ I h hp ρ (fun b => I b ∨ b = hp.size) h (hp.push o) where
  rel := {
    imm := by
      rintro b (hb | rfl)
      · have := hr.imm b hb; simp; omega
      · simp
    apart := by
      rintro id b o' h1 h2 (h3 | h3)
      · exact hr.apart id b o' h1 h2 h3
      · have := hr.block_lt h1 h2; omega
    obj := fun id b o' ob h1 h2 => by
      have hlt := hr.block_lt (h := h) h1 (by rw [h2]; simp)
      refine ObjOk_mono (fun _ _ h => h) (fun _ h => .inl h) (fun b hb => getElem?_push_lt' _ _ _ (hr.imm b hb)) (.push _ _) (getElem?_push_lt' _ _ _ hlt) (hr.obj id b o' ob h1 h2)
    inj := hr.inj }
  next := Nat.le_refl _
  lock := rfl
  rho := fun _ _ => rfl
  imm := fun _ h => .inl h
  own := by
    rintro b hb (h1 | h1)
    · exact .inl h1
    · omega
  ownρ := fun id b o h1 h2 => by omega
  size := by simp
  frame := fun b hb _ => getElem?_push_lt' _ _ _ hb
  shape := .push _ _
  dead := fun _ _ h => h
  low := fun _ _ => rfl
  fresh := hf

theorem Rho.put_le {n : Nat} (hn : ρ n = none) {p : Nat × Nat} : ∀ id q, ρ id = some q → (ρ.put n p) id = some q := by
  intro id q hq
  unfold Rho.put
  split
  · subst_vars; rw [hn] at hq; cases hq
  · exact hq

/-- A new object at a new block. -/
theorem Ext.new (hr : Rel ρ I h.heap hp) (hf : ∀ id, h.next ≤ id → h.heap id = none) (hl : h.lock ≤ h.next) (hn : ρ h.next = none) (o : Obj) (ob : AObj)
    (hob : ObjOk (ρ.put h.next (hp.size, 0)) I (hp.push o) hp.size 0 ob) :
    Ext ρ I h hp (ρ.put h.next (hp.size, 0)) I (h.new ob) (hp.push o) where
  rel := {
    imm := fun b hb => by have := hr.imm b hb; simp; omega
    apart := fun id b o' h1 h2 hI => by
      simp only [Rho.put] at h1
      split at h1
      · cases h1; have := hr.imm _ hI; omega
      · rename_i hne
        rw [AH.new_ne _ _ hne] at h2
        exact hr.apart id b o' h1 h2 hI
    obj := fun id b o' ob' h1 h2 => by
      by_cases hid : id = h.next
      · subst hid
        simp [Rho.put] at h1
        rw [AH.new_same] at h2
        obtain ⟨rfl, rfl⟩ := h1
        cases h2
        exact hob
      · rw [AH.new_ne _ _ hid] at h2
        have h1' : ρ id = some (b, o') := by simpa [Rho.put, hid] using h1
        have hlt := hr.block_lt (h := h) h1' (by rw [h2]; simp)
        exact ObjOk_mono (Rho.put_le hn) (fun _ h => h) (fun b hb => getElem?_push_lt' _ _ _ (hr.imm b hb)) (.push _ _) (getElem?_push_lt' _ _ _ hlt) (hr.obj id b o' ob' h1' h2)
    inj := fun id id' b o1 o2 h1 h2 h3 h4 => by
      have key : ∀ i o, i ≠ h.next → (ρ.put h.next (hp.size, 0)) i = some (b, o) → (h.new ob).heap i ≠ none → b < hp.size := by
        intro i o hne g1 g2
        rw [AH.new_ne _ _ hne] at g2
        exact hr.block_lt (h := h) (by simpa [Rho.put, hne] using g1) g2
      by_cases hid : id = h.next <;> by_cases hid' : id' = h.next
      · omega
      · have := key id' o2 hid' h2 h4
        subst hid
        simp [Rho.put] at h1
        omega
      · have := key id o1 hid h1 h3
        subst hid'
        simp [Rho.put] at h2
        omega
      · rw [AH.new_ne _ _ hid] at h3
        rw [AH.new_ne _ _ hid'] at h4
        exact hr.inj id id' b o1 o2 (by simpa [Rho.put, hid] using h1) (by simpa [Rho.put, hid'] using h2) h3 h4 }
  next := by simp [AH.new]
  lock := rfl
  rho := fun id hid => by
    simp only [AH.new] at hid
    simp only [Rho.put]
    rw [if_neg (by omega)]
  imm := fun _ h => h
  own := fun _ _ h => .inl h
  ownρ := fun id b o' h1 h2 h3 hb => by
    simp only [AH.new] at h2
    have : id = h.next := by omega
    subst this
    simp [Rho.put] at h3
    omega
  size := by simp
  frame := fun b hb _ => getElem?_push_lt' _ _ _ hb
  shape := .push _ _
  dead := fun id hid e => by rw [AH.new_ne _ _ (by omega)]; exact e
  low := fun id hid => by rw [AH.new_ne _ _ (by omega)]
  fresh := fun id hid => by
    simp only [AH.new] at hid
    rw [AH.new_ne _ _ (by omega)]
    exact hf id (by omega)

/-- An object lets its block go: nobody may ask for it any more. -/
theorem Ext.drop (hr : Rel ρ I h.heap hp) (hf : ∀ id, h.next ≤ id → h.heap id = none) {id : Nat} {h' : AH} (hs : h.set id none = some h') :
    Ext ρ I h hp ρ I h' hp := by
  unfold AH.set at hs
  cases e : Nat.ble h.lock id with
  | false => simp [e] at hs
  | true =>
    simp [e] at hs
    subst hs
    have hle : h.lock ≤ id := Nat.le_of_ble_eq_true e
    have sub : ∀ j, (h.heap.put id none) j ≠ none → h.heap j ≠ none := by
      intro j hj
      by_cases hji : j = id
      · subst hji; rw [AHeap.put_same] at hj; exact absurd rfl hj
      · rwa [AHeap.put_ne _ _ hji] at hj
    have sub' : ∀ j x, (h.heap.put id none) j = some x → h.heap j = some x := by
      intro j x hj
      by_cases hji : j = id
      · subst hji; rw [AHeap.put_same] at hj; cases hj
      · rwa [AHeap.put_ne _ _ hji] at hj
    exact {
      rel := ⟨hr.imm, fun i b o h1 h2 => hr.apart i b o h1 (sub i h2), fun i b o ob h1 h2 => hr.obj i b o ob h1 (sub' i ob h2), fun i j b o o' h1 h2 h3 h4 => hr.inj i j b o o' h1 h2 (sub i h3) (sub j h4)⟩
      next := Nat.le_refl _
      lock := rfl
      rho := fun _ _ => rfl
      imm := fun _ h => h
      own := fun _ _ h => .inl h
      ownρ := fun i b o h1 h2 => by simp only at h2; omega
      size := Nat.le_refl _
      frame := fun _ _ _ => rfl
      shape := .refl _
      dead := fun j hj e => by
        by_cases hji : j = id
        · subst hji; exact AHeap.put_same _ _ _
        · simp only; rw [AHeap.put_ne _ _ hji]; exact e
      low := fun j hj => by
        simp only; rw [AHeap.put_ne _ _ (by omega)]
      fresh := fun j hj => by
        by_cases hji : j = id
        · subst hji; exact AHeap.put_same _ _ _
        · simp only; rw [AHeap.put_ne _ _ hji]; exact hf j hj }

/-- An object is changed: its block, and nothing else. -/
theorem Ext.set (hr : Rel ρ I h.heap hp) (hf : ∀ id, h.next ≤ id → h.heap id = none) {id b o : Nat} {ob : AObj} {h' : AH} (hp' : Hp) (hs : h.set id (some ob) = some h')
    (hρ : ρ id = some (b, o)) (hlive : h.heap id ≠ none) (hsz : hp'.size = hp.size) (hframe : ∀ j, j ≠ b → hp'[j]? = hp[j]?) (hshape : ShapeLe hp hp')
    (hob : ObjOk ρ I hp' b o ob) : Ext ρ I h hp ρ I h' hp' := by
  unfold AH.set at hs
  cases e : Nat.ble h.lock id with
  | false => simp [e] at hs
  | true =>
    simp [e] at hs
    subst hs
    have hle : h.lock ≤ id := Nat.le_of_ble_eq_true e
    have hid : id < h.next := by
      rcases Nat.lt_or_ge id h.next with h | h'
      · exact h
      · exact absurd (hf id h') hlive
    have sub : ∀ j, (h.heap.put id (some ob)) j ≠ none → h.heap j ≠ none := by
      intro j hj
      by_cases hji : j = id
      · subst hji; exact hlive
      · rwa [AHeap.put_ne _ _ hji] at hj
    have hIb : ¬ I b := hr.apart id b o hρ hlive
    exact {
      rel := {
        imm := fun j hj => by rw [hsz]; exact hr.imm j hj
        apart := fun i b' o' h1 h2 => hr.apart i b' o' h1 (sub i h2)
        obj := fun i b' o' ob' h1 h2 => by
          by_cases hji : i = id
          · subst hji
            simp only at h2
            rw [AHeap.put_same] at h2
            cases h2
            rw [hρ] at h1
            cases h1
            exact hob
          · simp only at h2
            rw [AHeap.put_ne _ _ hji] at h2
            have hne : b' ≠ b := fun e => hji (hr.inj i id b o' o (e ▸ h1) hρ (by rw [h2]; simp) hlive)
            exact ObjOk_mono (fun _ _ h => h) (fun _ h => h) (fun j hj => hframe j (fun e => hIb (e ▸ hj))) hshape (hframe b' hne) (hr.obj i b' o' ob' h1 h2)
        inj := fun i j b o o' h1 h2 h3 h4 => hr.inj i j b o o' h1 h2 (sub i h3) (sub j h4) }
      next := Nat.le_refl _
      lock := rfl
      rho := fun _ _ => rfl
      imm := fun _ h => h
      own := fun _ _ h => .inl h
      ownρ := fun i b o h1 h2 => by simp only at h2; omega
      size := by omega
      frame := fun j hj hno => hframe j (fun e => hno (e ▸ ⟨id, o, hρ, hlive, hle⟩))
      shape := hshape
      dead := fun j hj e2 => by
        by_cases hji : j = id
        · exact absurd (hji ▸ e2) hlive
        · simp only; rw [AHeap.put_ne _ _ hji]; exact e2
      low := fun j hj => by
        simp only; rw [AHeap.put_ne _ _ (by omega)]
      fresh := fun j hj => by
        simp only at hj ⊢
        rw [AHeap.put_ne _ _ (by omega)]; exact hf j hj }

/-- An object lets its block go, and a new one takes it over, with more in it. -/
theorem Ext.regrow (hr : Rel ρ I h.heap hp) (hf : ∀ id, h.next ≤ id → h.heap id = none) (hl : h.lock ≤ h.next) (hn : ρ h.next = none) {id b o : Nat} (hρ : ρ id = some (b, o)) (hlive : h.heap id ≠ none) (hlock : h.lock ≤ id)
    (hp' : Hp) (hsz : hp'.size = hp.size) (hframe : ∀ j, j ≠ b → hp'[j]? = hp[j]?) (hshape : ShapeLe hp hp') (o' : Nat) (ob : AObj) (hob : ObjOk (ρ.put h.next (b, o')) I hp' b o' ob) :
    Ext ρ I h hp (ρ.put h.next (b, o')) I (({ h with heap := h.heap.put id none } : AH).new ob) hp' := by
  have hid : id < h.next := by
    rcases Nat.lt_or_ge id h.next with g | g
    · exact g
    · exact absurd (hf id g) hlive
  have hIb : ¬ I b := hr.apart id b o hρ hlive
  have hnew : (({ h with heap := h.heap.put id none } : AH).new ob).heap h.next = some ob := AHeap.put_same _ _ _
  have hold : ∀ j, j ≠ h.next → j ≠ id → (({ h with heap := h.heap.put id none } : AH).new ob).heap j = h.heap j := by
    intro j h1 h2
    simp only [AH.new]
    rw [AHeap.put_ne _ _ h1, AHeap.put_ne _ _ h2]
  have hgone : (({ h with heap := h.heap.put id none } : AH).new ob).heap id = none := by
    simp only [AH.new]
    rw [AHeap.put_ne _ _ (by omega), AHeap.put_same]
  have hρo : ∀ j, j ≠ h.next → (ρ.put h.next (b, o')) j = ρ j := fun j hj => by simp [Rho.put, hj]
  exact {
    rel := {
      imm := fun j hj => by rw [hsz]; exact hr.imm j hj
      apart := fun i b' o1 h1 h2 hI => by
        by_cases hi : i = h.next
        · subst hi
          simp [Rho.put] at h1
          exact hIb (h1.1 ▸ hI)
        · rw [hρo i hi] at h1
          by_cases hi2 : i = id
          · subst hi2; exact h2 hgone
          · rw [hold i hi hi2] at h2
            exact hr.apart i b' o1 h1 h2 hI
      obj := fun i b' o1 ob' h1 h2 => by
        by_cases hi : i = h.next
        · subst hi
          simp [Rho.put] at h1
          obtain ⟨rfl, rfl⟩ := h1
          rw [hnew] at h2
          cases h2
          exact hob
        · rw [hρo i hi] at h1
          by_cases hi2 : i = id
          · subst hi2; rw [hgone] at h2; cases h2
          · rw [hold i hi hi2] at h2
            have hne : b' ≠ b := fun e => hi2 (hr.inj i id b' o1 o h1 (e ▸ hρ) (by rw [h2]; simp) hlive)
            exact ObjOk_mono (Rho.put_le hn) (fun _ h => h) (fun j hj => hframe j (fun e => hIb (e ▸ hj))) hshape (hframe b' hne) (hr.obj i b' o1 ob' h1 h2)
      inj := fun i j b' o1 o2 h1 h2 h3 h4 => by
        have key : ∀ i o1, i ≠ h.next → (ρ.put h.next (b, o')) i = some (b', o1) → (({ h with heap := h.heap.put id none } : AH).new ob).heap i ≠ none → b' ≠ b := by
          intro i o1 hi g1 g2 e
          rw [hρo i hi] at g1
          by_cases hi2 : i = id
          · subst hi2; exact g2 hgone
          · rw [hold i hi hi2] at g2
            exact hi2 (hr.inj i id b' o1 o g1 (e ▸ hρ) g2 hlive)
        by_cases hi : i = h.next <;> by_cases hj : j = h.next
        · omega
        · have := key j o2 hj h2 h4
          subst hi
          simp [Rho.put] at h1
          exact absurd h1.1.symm this
        · have := key i o1 hi h1 h3
          subst hj
          simp [Rho.put] at h2
          exact absurd h2.1.symm this
        · by_cases hi2 : i = id
          · subst hi2; exact absurd hgone h3
          · by_cases hj2 : j = id
            · subst hj2; exact absurd hgone h4
            · rw [hold i hi hi2] at h3
              rw [hold j hj hj2] at h4
              rw [hρo i hi] at h1
              rw [hρo j hj] at h2
              exact hr.inj i j b' o1 o2 h1 h2 h3 h4 }
    next := by simp [AH.new]
    lock := rfl
    rho := fun j hj => hρo j (by simp only [AH.new] at hj; omega)
    imm := fun _ h => h
    own := fun _ _ h => .inl h
    ownρ := fun i b' o1 h1 h2 h3 hb => by
      simp only [AH.new] at h2
      have : i = h.next := by omega
      subst this
      simp [Rho.put] at h3
      exact ⟨id, o, h3.1 ▸ hρ, hlive, hlock⟩
    size := by omega
    frame := fun j hj hno => hframe j (fun e => hno (e ▸ ⟨id, o, hρ, hlive, hlock⟩))
    shape := hshape
    dead := fun j hj e => by
      by_cases h2 : j = id
      · subst h2; exact hgone
      · rw [hold j (by omega) h2]; exact e
    low := fun j hj => hold j (by omega) (by omega)
    fresh := fun j hj => by
      simp only [AH.new] at hj
      rw [hold j (by omega) (by omega)]
      exact hf j (by omega) }

end
end Go.Ai
