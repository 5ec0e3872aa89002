/-
  What an operation looks at in memory, and what it may change.
-/
import Derived.Test.YticmjjeicpejcaaAiAny0
set_option linter.unusedVariables false
set_option linter.unusedSimpArgs false
namespace Go.Ai
open Classical in
/-- A part of the objects, and all that are made from a number on. -/
noncomputable def AH.only (h : AH) (F : Nat → Prop) (n : Nat) : AH := ⟨fun id => if F id ∨ n ≤ id then h.heap id else none, h.next, h.lock⟩

section
variable {h h' : AH} {F : Nat → Prop} {n : Nat} {sl : List AV}

theorem only_heap {id : Nat} (hid : F id ∨ n ≤ id) : (h.only F n).heap id = h.heap id := by simp [AH.only, hid]
theorem only_heap_not {id : Nat} (hid : ¬ (F id ∨ n ≤ id)) : (h.only F n).heap id = none := by simp [AH.only, hid]
theorem only_cells {id : Nat} (hid : F id) : (h.only F n).cells? id = h.cells? id := by
  unfold AH.cells?
  rw [only_heap (.inl hid)]
theorem only_set {id : Nat} {o : Option AObj} (hs : h.set id o = some h') (hid : F id) : (h.only F n).set id o = some (h'.only F n) := by
  obtain ⟨hle, rfl⟩ := set_lock hs
  unfold AH.set
  have : Nat.ble (h.only F n).lock id = true := Nat.ble_eq_true_of_le hle
  rw [this]
  simp only [cond_true, AH.only, Option.some.injEq, AH.mk.injEq, and_self, and_true]
  funext j
  by_cases hj : j = id
  · subst hj
    simp [AHeap.put_same, hid]
  · rw [AHeap.put_ne _ _ hj]
    split
    · rw [AHeap.put_ne _ _ hj]
    · rfl
theorem only_new {o : AObj} (hn : n ≤ h.next) : (h.only F n).new o = (h.new o).only F n := by
  unfold AH.new AH.only
  simp only [AH.mk.injEq, and_self, and_true]
  funext j
  by_cases hj : j = h.next
  · subst hj
    simp [AHeap.put_same, hn]
  · rw [AHeap.put_ne _ _ hj]
    split
    · rw [AHeap.put_ne _ _ hj]
    · rfl
theorem only_next : (h.only F n).next = h.next := rfl

theorem set_changed {id : Nat} {o : Option AObj} (hs : h.set id o = some h') {j : Nat} (hc : h'.heap j ≠ h.heap j) : j = id := by
  obtain ⟨_, rfl⟩ := set_lock hs
  by_cases hj : j = id
  · exact hj
  · exact absurd (AHeap.put_ne _ _ hj) hc

theorem source_only {e : EK} {k : Nat} {y : AV} (hF : ∀ id ∈ srefId y, F id) {cs : List AV} (hs : source h e k y = some cs) : source (h.only F n) e k y = some cs := by
  cases y <;> simp only [source] at hs ⊢ <;> try exact hs
  rename_i id off len cap e'
  rw [only_cells (hF id (by simp [srefId]))]
  exact hs

/-- An append looks at two arrays, and changes one of them. -/
theorem append_local {e : EK} {bytes : Nat} {x y v : AV} (hn : n ≤ h.next) (hx : ∀ id ∈ srefId x, F id) (hy : ∀ id ∈ srefId y, F id) (hv : appendV h e bytes x y = some (v, h')) :
    appendV (h.only F n) e bytes x y = some (v, h'.only F n) ∧ ∀ id, id < h.next → h'.heap id ≠ h.heap id → id ∈ srefId x := by
  unfold appendV at hv ⊢
  obtain ⟨k, hk, hv⟩ := bind_some' hv
  rw [hk, Option.bind_some]
  rcases bif_cases hv with ⟨h0, hv⟩ | ⟨h0, hv⟩
  · rw [h0]
    simp only [cond_true]
    cases x <;> simp only [reduceCtorEq] at hv ⊢ <;> cases hv <;> exact ⟨rfl, fun _ _ h => absurd rfl h⟩
  · rw [h0]
    simp only [cond_false]
    obtain ⟨new, hs, hv⟩ := bind_some' hv
    rw [source_only hy hs, Option.bind_some]
    cases x with
    | empt b =>
      simp only at hv ⊢
      obtain ⟨h1, hv⟩ := bif_some hv
      cases hv
      rw [h1]
      simp only [cond_true, only_next, only_new hn, true_and]
      intro id hid hc
      exact absurd (AH.new_ne h _ (by omega)) hc
    | sref id off len cap e' =>
      simp only at hv ⊢
      obtain ⟨h1, hv⟩ := bif_some hv
      rw [h1]
      simp only [cond_true]
      have hF : F id := hx id (by simp [srefId])
      obtain ⟨cs, hcs, hv⟩ := bind_some' hv
      rw [only_cells hF, hcs, Option.bind_some]
      rcases bif_cases hv with ⟨h2, hv⟩ | ⟨h2, hv⟩
      · rw [h2]
        simp only [cond_true]
        obtain ⟨cs', hsp, hv⟩ := bind_some' hv
        obtain ⟨h3, hset, hv⟩ := bind_some' hv
        cases hv
        rw [hsp, Option.bind_some, only_set hset hF]
        exact ⟨rfl, fun j _ hc => by rw [set_changed hset hc]; simp [srefId]⟩
      · rw [h2]
        simp only [cond_false]
        obtain ⟨h4, hv⟩ := bif_some hv
        obtain ⟨h3, hset, hv⟩ := bind_some' hv
        cases hv
        rw [h4, only_set hset hF]
        have hnx : h3.next = h.next := set_next hset
        simp only [cond_true, Option.bind_some, only_next, only_new (show n ≤ h3.next by omega), true_and]
        intro j hj hc
        rw [AH.new_ne _ _ (by omega)] at hc
        rw [set_changed hset hc]
        simp [srefId]
    | _ => cases hv

theorem evalOp_local {call : CallFn} {o : AOp} {v : AV} (hv : evalOp call sl h o = some (v, h')) {L : List Nat} (hf : (footOf sl o).1 = some L) :
    evalOp call sl (h.only (· ∈ L) h.next) o = some (v, h'.only (· ∈ L) h.next) ∧ ∀ id, id < h.next → h'.heap id ≠ h.heap id → id ∈ L := by
  have pureCase : ∀ {u : Option AV}, u.map (fun v => (v, h)) = some (v, h') → u.map (fun v => (v, h.only (· ∈ L) h.next)) = some (v, h'.only (· ∈ L) h.next) ∧ ∀ id, id < h.next → h'.heap id ≠ h.heap id → id ∈ L := by
    intro u hu
    obtain ⟨x, hx, e⟩ := map_some' hu
    cases e
    rw [hx]
    exact ⟨rfl, fun _ _ h => absurd rfl h⟩
  cases o <;> first
    | (simp only [footOf, AOp.cls, reduceCtorEq] at hf; done)
    | (simp only [evalOp, AOp.cls] at hv ⊢; exact pureCase hv)
    | skip
  case box fr x =>
    simp only [footOf, Option.some.injEq] at hf
    subst hf
    simp only [evalOp, AOp.cls, memV] at hv ⊢
    obtain ⟨h1, hv⟩ := bif_some hv
    rw [h1]
    simp only [cond_true]
    rcases bif_cases hv with ⟨rfl, hv⟩ | ⟨rfl, hv⟩
    · cases hv; exact ⟨rfl, fun _ _ h => absurd rfl h⟩
    · cases hv
      simp only [cond_false, only_next, only_new (Nat.le_refl _), true_and]
      intro id hid hc
      exact absurd (AH.new_ne h _ (by omega)) hc
  case bslice e len zero ps =>
    simp only [footOf, Option.some.injEq] at hf
    subst hf
    simp only [evalOp, AOp.cls, memV] at hv ⊢
    obtain ⟨cs, h1, hv⟩ := bind_some' hv
    rw [h1, Option.bind_some]
    rcases bif_cases hv with ⟨h2, hv⟩ | ⟨h2, hv⟩
    · cases hv
      rw [h2]
      exact ⟨rfl, fun _ _ h => absurd rfl h⟩
    · rw [h2]
      simp only [cond_false]
      obtain ⟨h3, hv⟩ := bif_some hv
      cases hv
      rw [h3]
      simp only [cond_true, only_next, only_new (Nat.le_refl _), true_and]
      intro id hid hc
      exact absurd (AH.new_ne h _ (by omega)) hc
  case load e x =>
    simp only [footOf] at hf
    simp only [evalOp, AOp.cls, memV] at hv ⊢
    cases hx : x.val sl <;> rw [hx] at hf hv <;> simp only [reduceCtorEq, Option.some.injEq] at hf hv ⊢
    case ptr id off =>
      subst hf
      obtain ⟨cs, hcs, hv⟩ := bind_some' hv
      rw [only_cells (by simp), hcs, Option.bind_some]
      exact pureCase hv
    case iptr cs =>
      subst hf
      exact pureCase hv
  case store k x y =>
    simp only [footOf] at hf
    simp only [evalOp, AOp.cls, memV] at hv ⊢
    cases hx : x.val sl <;> rw [hx] at hf hv <;> simp only [reduceCtorEq, Option.some.injEq] at hf hv ⊢
    case ptr id off =>
      subst hf
      obtain ⟨h1, hv⟩ := bif_some hv
      obtain ⟨cs, hcs, hv⟩ := bind_some' hv
      obtain ⟨cs', hsp, hv⟩ := bind_some' hv
      obtain ⟨h3, hset, hv⟩ := bind_some' hv
      cases hv
      rw [h1, only_cells (by simp), hcs, cond_true, Option.bind_some, hsp, Option.bind_some, only_set hset (by simp)]
      exact ⟨rfl, fun j _ hc => by rw [set_changed hset hc]; simp⟩
  case append e b x y =>
    simp only [footOf, Option.some.injEq] at hf
    subst hf
    simp only [evalOp, AOp.cls, memV] at hv ⊢
    obtain ⟨g1, g2⟩ := append_local (F := fun id => id ∈ srefId (x.val sl) ++ srefId (y.val sl)) (Nat.le_refl _) (fun id hid => by simp [hid]) (fun id hid => by simp [hid]) hv
    exact ⟨g1, fun id h1 h2 => List.mem_append.2 (.inl (g2 id h1 h2))⟩
  case call cl f as => cases cl <;> simp only [footOf, reduceCtorEq] at hf
  case callv cl f as => cases cl <;> simp only [footOf, reduceCtorEq] at hf

theorem evalOp_wr {P : Program} {call : CallFn} (hcall : CallOk P call) {o : AOp} {v : AV} (hv : evalOp call sl h o = some (v, h')) {ws : List Nat} (hf : (footOf sl o).2 = some ws) : ∀ id, id < h.next → h'.heap id ≠ h.heap id → id ∈ ws := by
  intro id hid hc
  by_cases hW : o.cls = .W
  · cases o <;> simp only [AOp.cls, reduceCtorEq] at hW <;> try (simp only [footOf, AOp.cls, reduceCtorEq] at hf; done)
    case store k x y =>
      have hrd : (footOf sl (.store k x y)).1 = some ws := by
        simp only [footOf] at hf ⊢
        cases hx : x.val sl <;> rw [hx] at hf <;> simp only [reduceCtorEq] at hf ⊢
        exact hf
      exact (evalOp_local hv hrd).2 id hid hc
    case append e b x y =>
      simp only [footOf, Option.some.injEq] at hf
      subst hf
      simp only [evalOp, AOp.cls, memV] at hv
      exact (append_local (F := fun _ => True) (n := 0) (Nat.zero_le _) (fun _ _ => trivial) (fun _ _ => trivial) hv).2 id hid hc
    case call cl f as => subst hW; simp only [footOf, reduceCtorEq] at hf
    case callv cl f as => subst hW; simp only [footOf, reduceCtorEq] at hf
  · exact absurd ((evalOp_keeps hcall hv).2.1 hW id hid) hc
end
end Go.Ai
