/-
  maps.DeleteFunc's walk.
-/
import Derived.Test.YticmjjeicpejcaaAiDel
import Derived.Test.YticmjjeicpejcaaProg
import Derived.Laws.AppendOwn
import Derived.KernelRfl
set_option linter.unusedVariables false
set_option linter.unusedSimpArgs false
namespace Go.Proofs.Yticmjjeicpejcaa
open Go.Ai

/-- The loop's state. -/
structure DelSt (w W : World) (b : Nat) (Z : List (MapEntry × Bool)) (clock : Nat) (seen : Array Nat) : Prop where
  map : W.heap[b]? = some (.map (esAt Z seen).toArray clock)
  iter : W.heap[w.heap.size]? = some (.mapIter (some b) clock seen clock)
  grown : w.grownBy W (some b)
  sub : ∀ s, seen.contains s = true → ∃ p ∈ Z, p.1.born = s

def unseen (Z : List (MapEntry × Bool)) (seen : Array Nat) : Nat := (Z.filter fun p => !seen.contains p.1.born).length

theorem unseen_push {Z : List (MapEntry × Bool)} {seen : Array Nat} {p : MapEntry × Bool} (hp : p ∈ Z) (hs : seen.contains p.1.born = false) : unseen Z (seen.push p.1.born) < unseen Z seen := by
  unfold unseen
  have h1 : (Z.filter fun q => !(seen.push p.1.born).contains q.1.born) = (Z.filter fun q => !seen.contains q.1.born).filter fun q => !(q.1.born == p.1.born) := by
    rw [List.filter_filter]
    apply List.filter_congr
    intro q _
    by_cases hq : q.1.born = p.1.born
    · simp [hq]
    · simp [hq]
  rw [h1]
  have h2 : p ∈ Z.filter fun q => !seen.contains q.1.born := List.mem_filter.2 ⟨hp, by rw [hs]; rfl⟩
  refine Nat.lt_of_le_of_ne (List.length_filter_le ..) (fun e => ?_)
  have := List.length_filter_eq_length_iff.1 e p h2
  simp at this

/-- What is asked of the closure and of the keys. -/
structure DelAsk (w : World) (b g : Nat) (cb : Array Value) (Z : List (MapEntry × Bool)) : Prop where
  nodup : (Z.map fun p => p.1.born).Nodup
  enter : ∀ p ∈ Z, ∀ args W, (callFunc g args).run Try.prog W = .ok (.enter g args) W
  del : ∀ p ∈ Z, ∀ W : World, w.grownBy W (some b) → Calls Try.prog g (#[p.1.key, p.1.val] ++ cb) W fun e W' => e = .returned (.bool p.2) ∧ W.grownBy W' none
  find : ∀ p ∈ Z, ∀ (seen : Array Nat) (W : World), p.1 ∈ esAt Z seen → ∃ j, (Instr.findKey 3 p.1.key (esAt Z seen)).run Try.prog W = .ok (some (j, p.1.val)) W ∧ (esAt Z seen)[j]? = some p.1
  check : ∀ p ∈ Z, ∀ (em : Bool) (W : World), (Instr.checkKey em 10000 3 p.1.key).run Try.prog W = .ok () W

theorem grown_setBlock {w W : World} {b k : Nat} {o : Obj} (h : w.grownBy W (some b)) (hk : k = b ∨ w.heap.size ≤ k) : w.grownBy (Go.ChangeMaps.setBlock W k o) (some b) where
  os := h.os
  tape := h.tape
  output := h.output
  size := by simp only [Go.ChangeMaps.setBlock, Array.size_setIfInBounds]; exact h.size
  block := fun j hj hjb => by
    simp only [Go.ChangeMaps.setBlock]
    rw [Array.getElem?_setIfInBounds_ne (by rintro rfl; rcases hk with rfl | hk; exact hjb rfl; omega)]
    exact h.block j hj hjb

theorem setBlock_same {W : World} {k : Nat} {o : Obj} (hk : k < W.heap.size) : (Go.ChangeMaps.setBlock W k o).heap[k]? = some o := by simp [Go.ChangeMaps.setBlock, hk]
theorem setBlock_other {W : World} {k j : Nat} {o : Obj} (hk : k ≠ j) : (Go.ChangeMaps.setBlock W k o).heap[j]? = W.heap[j]? := by simp [Go.ChangeMaps.setBlock, Array.getElem?_setIfInBounds_ne hk]
theorem lt_of_get {W : World} {k : Nat} {o : Obj} (h : W.heap[k]? = some o) : k < W.heap.size := (Array.getElem?_eq_some_iff.1 h).1

theorem grown_trans {a b c : World} {k : Nat} (h : a.grownBy b (some k)) (g : b.grownBy c none) : a.grownBy c (some k) where
  os := g.os.trans h.os
  tape := g.tape.trans h.tape
  output := g.output.trans h.output
  size := Nat.le_trans h.size g.size
  block := fun j hj hjb => (g.block j (Nat.lt_of_lt_of_le hj h.size) (by simp)).trans (h.block j hj hjb)

theorem exec_v {P : Program} {ρ : Operand → Value} {o : Oper} {s : Sem Value} {v : Value} {w w' : World} (h : execOp ρ o = (do let v ← s; pure (Next.value v))) (hr : s.run P w = .ok v w') : (execOp ρ o).run P w = .ok (.value v) w' := by
  rw [h]
  simp [hr]

theorem res22 (t : Array Value) (W : World) : (Go.results Try.f22 t).run Try.prog W = .ok (.tuple #[]) W := by
  have h : Try.f22.results = #[] := rfl
  simp [Go.results, h]

/-- The slots in the loop. -/
def Slots19 (b g : Nat) (cb : Array Value) (it : Nat) (a : Act) : Prop :=
  ∃ x2 x3 x4 x5 x6 x8 x9 x10 x11 x12 x13 x14 x15 x16 x17 x18 : Value,
    a = ⟨#[.map (some b), .func (.func g) #[] cb, x2, x3, x4, x5, x6, .pointer (some ⟨it, 0, none⟩), x8, x9, x10, x11, x12, x13, x14, x15, x16, x17, x18], []⟩

/-- Read off. -/
theorem slots_of {b g : Nat} {cb : Array Value} {it : Nat} {a : Act} (h : a.tmps.size = 19 ∧ a.tmps.getD 0 undef = .map (some b) ∧ a.tmps.getD 1 undef = .func (.func g) #[] cb ∧ a.tmps.getD 7 undef = .pointer (some ⟨it, 0, none⟩) ∧ a.defers = []) : Slots19 b g cb it a := by
  obtain ⟨⟨l⟩, d⟩ := a
  obtain ⟨h1, h2, h3, h4, h5⟩ := h
  simp only at h5
  subst h5
  match l, h1 with
  | [x0, x1, x2, x3, x4, x5, x6, x7, x8, x9, x10, x11, x12, x13, x14, x15, x16, x17, x18], _ =>
    have e0 : x0 = .map (some b) := h2
    have e1 : x1 = .func (.func g) #[] cb := h3
    have e7 : x7 = .pointer (some ⟨it, 0, none⟩) := h4
    subst e0 e1 e7
    exact ⟨x2, x3, x4, x5, x6, x8, x9, x10, x11, x12, x13, x14, x15, x16, x17, x18, rfl⟩

theorem erase_filter : ∀ (l : List MapEntry) (j : Nat) (x : MapEntry), l[j]? = some x → (l.map (·.born)).Nodup → l.eraseIdx j = l.filter fun y => !(y.born == x.born)
  | [], j, x, h, _ => by simp at h
  | a :: l, 0, x, h, hn => by
    simp only [List.getElem?_cons_zero, Option.some.injEq] at h
    subst h
    simp only [List.map_cons, List.nodup_cons] at hn
    have : (l.filter fun y => !(y.born == a.born)) = l := by
      rw [List.filter_eq_self]
      intro y hy
      have : y.born ≠ a.born := fun e => hn.1 (by rw [← e]; exact List.mem_map_of_mem hy)
      simp [this]
    simp [this]
  | a :: l, j + 1, x, h, hn => by
    simp only [List.getElem?_cons_succ] at h
    simp only [List.map_cons, List.nodup_cons] at hn
    have hx : a.born ≠ x.born := fun e => hn.1 (by rw [e]; exact List.mem_map_of_mem (List.mem_of_getElem? h))
    simp [erase_filter l j x h hn.2, hx]

theorem calls_tmps {P : Program} {f : FuncId} {fn : Func} {c : Code} {args t : Array Value} {w : World} {R : Ending → World → Prop} (hf : P.funcs[f]? = some fn) (hb : fn.body = some c)
    (ht : args ++ Array.replicate (fn.ntmps - args.size) undef = t) (h : c.wp P (bodyPost P fn R) ⟨t, []⟩ w) : Calls P f args w R := calls_of_wp hf hb (by rw [ht]; exact h)

set_option maxHeartbeats 1000000 in
theorem del_calls {w : World} {b g : Nat} {cb : Array Value} {Z : List (MapEntry × Bool)} {clock : Nat} (hb : w.heap[b]? = some (.map (Z.map (·.1)).toArray clock)) (hlt : ∀ p ∈ Z, p.1.born < clock) (ask : DelAsk w b g cb Z) :
    Calls Try.prog 22 #[.map (some b), .func (.func g) #[] cb] w fun e W => e = .returned (.tuple #[]) ∧ W.heap[b]? = some (.map ((Z.filter fun p => !p.2).map (·.1)).toArray clock) ∧ w.grownBy W (some b) := by
  refine calls_tmps Try.func22 rfl (t := #[.map (some b), .func (.func g) #[] cb, undef, undef, undef, undef, undef, undef, undef, undef, undef, undef, undef, undef, undef, undef, undef, undef, undef]) (by kernel_rfl) ?_
  have hbl := lt_of_get hb
  refine wp_seq (wp_region ?_)
  refine ops_val rfl rfl (v := .map (some b)) (w' := w) rfl ?_
  refine ops_val rfl rfl (v := .pointer (some ⟨w.heap.size, 0, none⟩)) (w' := w.alloc (.mapIter (some b) clock #[] clock)) ?_ ?_
  · have e : ∀ ρ : Operand → Value, ρ (.tmp 6) = .map (some b) → (execOp ρ { dst := some 7, op := .range 23 (.tmp 6), type := 0, pos := "maps.go:70", after := #[{ on := 0, ground := .data }], guard := none }).run Try.prog w = .ok (.value (.pointer (some ⟨w.heap.size, 0, none⟩))) (w.alloc (.mapIter (some b) clock #[] clock)) := by
      intro ρ hρ
      simp [execOp, hρ, Instr.range, run_underlying Try.underlying23, run_getMap hb, newObj]
      rfl
    exact e _ rfl
  refine wp_block (wp_loop_rounds (unseen Z #[] + 1) ?_)
  have hst : DelSt w (w.alloc (.mapIter (some b) clock #[] clock)) b Z clock #[] := by
    have hh : (w.alloc (.mapIter (some b) clock #[] clock)).heap = w.heap.push (.mapIter (some b) clock #[] clock) := rfl
    refine ⟨?_, ?_, ⟨rfl, rfl, rfl, ?_, fun k hk _ => ?_⟩, fun s h => by simp at h⟩
    · rw [esAt_start, hh, Array.getElem?_push, if_neg (Nat.ne_of_lt hbl)]
      exact hb
    · rw [hh, Array.getElem?_push, if_pos rfl]
    · rw [hh, Array.size_push]
      omega
    · rw [hh, Array.getElem?_push, if_neg (Nat.ne_of_lt hk)]
  have ha : Slots19 b g cb w.heap.size (({ tmps := #[.map (some b), .func (.func g) #[] cb, undef, undef, undef, undef, undef, undef, undef, undef, undef, undef, undef, undef, undef, undef, undef, undef, undef], defers := [] } : Act).put (some 6) (.map (some b)) |>.put (some 7) (.pointer (some ⟨w.heap.size, 0, none⟩))) :=
    ⟨undef, undef, undef, undef, .map (some b), undef, undef, undef, undef, undef, undef, undef, undef, undef, undef, undef, by kernel_rfl⟩
  have hn : unseen Z #[] < unseen Z #[] + 1 := Nat.lt_succ_self _
  refine (show ∀ (n : Nat) (seen : Array Nat) (W : World) (a : Act), DelSt w W b Z clock seen → Slots19 b g cb w.heap.size a → unseen Z seen < n → Code.rounds Try.prog _ _ n a W from ?_) _ _ _ _ hst ha hn
  clear hst ha hn
  intro n
  induction n with
  | zero => intro seen W a _ _ hn; omega
  | succ n ih =>
    rintro seen W a hst ⟨x2, x3, x4, x5, x6, x8, x9, x10, x11, x12, x13, x14, x15, x16, x17, x18, rfl⟩ hn
    rw [rounds_succ]
    have hold : ∀ x ∈ (esAt Z seen).toArray.toList, x.born < clock := by
      intro x hx
      simp only [esAt, List.mem_map, List.mem_filter] at hx
      obtain ⟨p, ⟨hp, _⟩, rfl⟩ := hx
      exact hlt p hp
    refine wp_seq (wp_region ?_)
    rcases run_next_at (P := Try.prog) W 0 w.heap.size b clock clock seen (esAt Z seen).toArray clock hst.iter hst.map hold (Nat.le_refl _) with ⟨h0, hr⟩ | ⟨e, he, w1, hw1, hr⟩
    · refine ops_val rfl rfl (exec_v (s := Instr.next (.pointer (some ⟨w.heap.size, 0, none⟩)) false 0) (by kernel_rfl) hr) ?_
      refine ops_val rfl rfl (v := .bool false) (w' := W) (by kernel_rfl) ?_
      refine wp_seq (wp_cond (t := false) (by kernel_rfl) ?_)
      refine wp_exit ?_
      have hend : esAt Z seen = (Z.filter fun p => !p.2).map (·.1) := by
        apply esAt_end
        intro e he
        cases hs : seen.contains e.born with
        | true => rfl
        | false =>
          exfalso
          have : e ∈ (leftOf (esAt Z seen).toArray seen).toList := by
            simp only [leftOf, Array.toList_filter, List.mem_filter]
            exact ⟨he, by rw [hs]; rfl⟩
          have hz : (leftOf (esAt Z seen).toArray seen).toList = [] := List.eq_nil_of_length_eq_zero (by rw [Array.length_toList]; exact h0)
          rw [hz] at this
          cases this
      have hfin : W.heap[b]? = some (.map ((Z.filter fun p => !p.2).map (·.1)).toArray clock) := by rw [← hend]; exact hst.map
      exact ⟨rfl, .tuple #[], res22 _ W, rfl, hfin, hst.grown⟩
    · have he' : e ∈ esAt Z seen ∧ seen.contains e.born = false := by
        simp only [leftOf, Array.toList_filter, List.mem_filter] at he
        refine ⟨he.1, ?_⟩
        cases hs : seen.contains e.born with
        | false => rfl
        | true => rw [hs] at he; exact absurd he.2 (by simp)
      obtain ⟨he1, hs⟩ := he'
      obtain ⟨p, hp, rfl⟩ : ∃ p ∈ Z, p.1 = e := by
        simp only [esAt, List.mem_map, List.mem_filter] at he1
        obtain ⟨p, ⟨hp, _⟩, hpe⟩ := he1
        exact ⟨p, hp, hpe⟩
      have hne : w.heap.size ≠ b := by omega
      have hw1h : w1.heap = W.heap := by rcases hw1 with rfl | rfl <;> rfl
      have hg1 : w.grownBy w1 (some b) := by
        rcases hw1 with rfl | rfl
        · exact hst.grown
        · exact ⟨hst.grown.os, hst.grown.tape, hst.grown.output, hst.grown.size, hst.grown.block⟩
      have hitl : w.heap.size < w1.heap.size := by rw [hw1h]; exact lt_of_get hst.iter
      generalize hW1 : Go.ChangeMaps.setBlock w1 w.heap.size (.mapIter (some b) clock (seen.push p.1.born) clock) = W1 at hr
      have m1 : W1.heap[b]? = some (.map (esAt Z seen).toArray clock) := by rw [← hW1, setBlock_other hne, hw1h]; exact hst.map
      have i1 : W1.heap[w.heap.size]? = some (.mapIter (some b) clock (seen.push p.1.born) clock) := by rw [← hW1]; exact setBlock_same hitl
      have g1 : w.grownBy W1 (some b) := by rw [← hW1]; exact grown_setBlock hg1 (.inr (Nat.le_refl _))
      have hnd : ((esAt Z seen).toArray.toList.map (·.born)).Nodup := by
        have : (esAt Z seen).Sublist (Z.map (·.1)) := List.Sublist.map _ List.filter_sublist
        have h2 := ask.nodup
        rw [show (Z.map fun p => p.1.born) = (Z.map (·.1)).map (·.born) by rw [List.map_map]; rfl] at h2
        exact (this.map _).nodup h2
      have hsub : ∀ s, (seen.push p.1.born).contains s = true → ∃ q ∈ Z, q.1.born = s := by
        intro s h
        simp only [Array.contains_push, Bool.or_eq_true, beq_iff_eq] at h
        rcases h with h | h
        · exact hst.sub s (by simpa using h)
        · exact ⟨p, hp, by simpa using h.symm⟩
      refine ops_val rfl rfl (exec_v (s := Instr.next (.pointer (some ⟨w.heap.size, 0, none⟩)) false 0) (by kernel_rfl) hr) ?_
      refine ops_val rfl rfl (v := .bool true) (w' := W1) (by kernel_rfl) ?_
      refine wp_seq (wp_cond (t := true) (by kernel_rfl) (wp_skip ?_))
      refine wp_block (wp_seq (wp_region ?_))
      refine ops_val rfl rfl (exec_v (s := Instr.entry (.pointer (some ⟨w.heap.size, 0, none⟩))) (by kernel_rfl) (run_entry_at W1 w.heap.size b clock seen (esAt Z seen).toArray clock p.1 i1 m1 he1 hnd)) ?_
      refine ops_val rfl rfl (v := p.1.key) (w' := W1) (by kernel_rfl) ?_
      refine ops_val rfl rfl (v := p.1.val) (w' := W1) (by kernel_rfl) ?_
      refine ops_val rfl rfl (v := p.1.key) (w' := W1) (by kernel_rfl) ?_
      refine ops_val rfl rfl (v := p.1.val) (w' := W1) (by kernel_rfl) ?_
      refine wp_seq (wp_region ?_)
      refine ops_val rfl rfl (v := .func (.func g) #[] cb) (w' := W1) (by kernel_rfl) ?_
      refine ops_val rfl rfl (v := p.1.key) (w' := W1) (by kernel_rfl) ?_
      refine ops_val rfl rfl (v := p.1.val) (w' := W1) (by kernel_rfl) ?_
      refine ops_call rfl rfl (f := g) (args := #[p.1.key, p.1.val] ++ cb) (R := fun v W2 => v = .bool p.2 ∧ W1.grownBy W2 none) ?_ ((ask.del p hp W1 g1).mono fun e W2 h => ⟨_, h.1, rfl, h.2⟩) ?_
      · rw [show execOp _ _ = callFunc g (#[p.1.key, p.1.val] ++ cb) by kernel_rfl]
        exact ask.enter p hp _ _
      rintro v W2 ⟨rfl, gd⟩
      have m2 : W2.heap[b]? = some (.map (esAt Z seen).toArray clock) := (gd.block b (lt_of_get m1) (by simp)).trans m1
      have i2 : W2.heap[w.heap.size]? = some (.mapIter (some b) clock (seen.push p.1.born) clock) := (gd.block _ (lt_of_get i1) (by simp)).trans i1
      have g2 : w.grownBy W2 (some b) := grown_trans g1 gd
      have hlt2 : unseen Z (seen.push p.1.born) < n := by
        have := unseen_push hp hs
        omega
      cases hv : p.2 with
      | false =>
        refine wp_cond (t := false) (by kernel_rfl) (wp_skip ?_)
        refine ih (seen.push p.1.born) W2 _ ⟨?_, i2, g2, hsub⟩ (slots_of ⟨by kernel_rfl, by kernel_rfl, by kernel_rfl, by kernel_rfl, by kernel_rfl⟩) hlt2
        rw [esAt_stay ask.nodup (by rw [← hv]; exact hp)]
        exact m2
      | true =>
        refine wp_cond (t := true) (by kernel_rfl) (wp_region ?_)
        refine ops_val rfl rfl (v := .map (some b)) (w' := W2) (by kernel_rfl) ?_
        refine ops_val rfl rfl (v := p.1.key) (w' := W2) (by kernel_rfl) ?_
        obtain ⟨j, hfk, hj⟩ := ask.find p hp seen W2 he1
        have hck := ask.check p hp (esAt Z seen).toArray.isEmpty W2
        have hej : (esAt Z seen).toArray[j]? = some p.1 := by simpa using hj
        have hrun : (Builtin.delete_ #[23, 3] 0 #[.map (some b), p.1.key]).run Try.prog W2 = .ok (.tuple #[]) (Go.Ai.setBlock W2 b (.map ((esAt Z seen).toArray.eraseIdxIfInBounds j) clock)) := by
          simp at hck hfk hj
          simp [Builtin.delete_, run_underlying Try.underlying23, run_getMap m2, hck, hfk, hj, run_setMap m2]
        refine ops_val rfl rfl (exec_v (s := Builtin.delete_ #[23, 3] 0 #[.map (some b), p.1.key]) (by kernel_rfl) hrun) ?_
        have hbl2 := lt_of_get m2
        have hes : (.map ((esAt Z seen).toArray.eraseIdxIfInBounds j) clock : Obj) = .map (esAt Z (seen.push p.1.born)).toArray clock := by
          have hjl : j < (esAt Z seen).length := (List.getElem?_eq_some_iff.1 hj).1
          have he2 : (esAt Z seen).toArray.eraseIdxIfInBounds j = (esAt Z (seen.push p.1.born)).toArray := by
            rw [esAt_strike ask.nodup (by rw [← hv]; exact hp), ← erase_filter _ j _ hj hnd]
            simp [Array.eraseIdxIfInBounds, hjl]
          rw [he2]
        rw [hes]
        exact ih (seen.push p.1.born) (Go.ChangeMaps.setBlock W2 b (.map (esAt Z (seen.push p.1.born)).toArray clock)) _ ⟨setBlock_same hbl2, by rw [setBlock_other (fun e => hne e.symm)]; exact i2, grown_setBlock g2 (.inl rfl), hsub⟩ (slots_of ⟨by kernel_rfl, by kernel_rfl, by kernel_rfl, by kernel_rfl, by kernel_rfl⟩) hlt2
end Go.Proofs.Yticmjjeicpejcaa
