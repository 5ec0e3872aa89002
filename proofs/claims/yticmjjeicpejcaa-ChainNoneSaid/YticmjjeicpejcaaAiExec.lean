/-
  Code: what the abstract run comes to, the model's run comes to.
-/
import Derived.Test.YticmjjeicpejcaaAiAny
import Derived.LoopN
set_option linter.unusedVariables false
set_option linter.unusedSimpArgs false
namespace Go.Ai

def AExit.conv : AExit → Exit
  | .normal => .normal
  | .exit id => .exit id
  | .ret => .ret

section
variable {ρ : Rho} {I : Nat → Prop} {P : Program} {h h' : AH} {w : World} {sl : List AV} {a : Act} {hp : Hp}

theorem iter_abs {f : AS → Option (AExit × AS)} (hf : ∀ st e st', f st = some (e, st') → Abs st.h st'.h) : ∀ (n : Nat) (st : AS) (e : AExit) (st' : AS), iter f n st = some (e, st') → Abs st.h st'.h
  | 0, st, e, st', h => by cases h
  | n + 1, st, e, st', h => by
    simp only [iter] at h
    obtain ⟨r, h1, h⟩ := bind_some' h
    obtain ⟨e1, s1⟩ := r
    have g1 := hf _ _ _ h1
    simp only at h
    split at h
    · exact g1.trans (iter_abs hf n _ _ _ h)
    · cases h; exact g1

theorem exec_abs {call : CallFn} (hcall : CallOk P call) (k : Nat) : ∀ (c : AC) (st : AS) (e : AExit) (st' : AS), exec call k c st = some (e, st') → Abs st.h st'.h
  | .skip, st, e, st', h => by cases h; exact .refl _
  | .ops l, st, e, st', h => by
    simp only [exec] at h
    obtain ⟨s, h1, h2⟩ := map_some' h
    cases h2
    exact execOps_abs hcall h1
  | .opsAny l pairs, st, e, st', h => by
    simp only [exec] at h
    obtain ⟨s, h1, h2⟩ := bind_some' h
    obtain ⟨s1, s2⟩ := s
    obtain ⟨_, h3⟩ := bif_some h2
    cases h3
    exact execOps_abs hcall (execOpsF_execOps h1)
  | .seq x y, st, e, st', h => by
    simp only [exec] at h
    obtain ⟨r, h1, h⟩ := bind_some' h
    obtain ⟨e1, s1⟩ := r
    have g1 := exec_abs hcall k x _ _ _ h1
    simp only at h
    split at h
    · exact g1.trans (exec_abs hcall k y _ _ _ h)
    · cases h; exact g1
  | .cond c t f, st, e, st', h => by
    simp only [exec] at h
    split at h
    · rcases bif_cases h with ⟨_, h⟩ | ⟨_, h⟩
      · exact exec_abs hcall k t _ _ _ h
      · exact exec_abs hcall k f _ _ _ h
    · cases h
  | .block id c, st, e, st', h => by
    simp only [exec] at h
    obtain ⟨r, h1, h2⟩ := map_some' h
    obtain ⟨e1, s1⟩ := r
    have g1 := exec_abs hcall k c _ _ _ h1
    simp only at h2
    split at h2 <;> (cases h2; exact g1)
  | .loop c, st, e, st', h => by
    simp only [exec] at h
    exact iter_abs (fun _ _ _ h => exec_abs hcall k c _ _ _ h) _ _ _ _ h
  | .exit id, st, e, st', h => by cases h; exact .refl _
  | .ret, st, e, st', h => by cases h; exact .refl _

theorem iter_next {f : AS → Option (AExit × AS)} (hf : ∀ st e st', f st = some (e, st') → st.h.next ≤ st'.h.next) : ∀ (n : Nat) (st : AS) (e : AExit) (st' : AS), iter f n st = some (e, st') → st.h.next ≤ st'.h.next
  | 0, st, e, st', h => by cases h
  | n + 1, st, e, st', h => by
    simp only [iter] at h
    obtain ⟨r, h1, h⟩ := bind_some' h
    obtain ⟨e1, s1⟩ := r
    have g1 := hf _ _ _ h1
    simp only at h
    split at h
    · exact Nat.le_trans g1 (iter_next hf n _ _ _ h)
    · cases h; exact g1

theorem exec_next {call : CallFn} (hcall : CallOk P call) (k : Nat) (c : AC) (st : AS) (e : AExit) (st' : AS) (h : exec call k c st = some (e, st')) : st.h.next ≤ st'.h.next := (exec_abs hcall k c st e st' h).next

/-- What is claimed of a piece of code. -/
def Sound (P : Program) (c : Code) (f : AS → Option (AExit × AS)) : Prop :=
  ∀ (st st' : AS) (e : AExit) (a : Act) (w : World) (ρ : Rho) (I : Nat → Prop), f st = some (e, st') → Ok ρ I st.h w.heap → (∀ id, st.h.next ≤ id → id < st'.h.next → ρ id = none) → Slots ρ I w.heap st.sl a → a.defers = [] →
    c.wp P (fun e' a' w' => e' = e.conv ∧ Reach ρ I st.h w st' a' w') a w

theorem rounds_mono {c : Code} {Q Q' : Exit → Act → World → Prop} (hq : ∀ e a w, Q e a w → Q' e a w) : ∀ (n : Nat) (a : Act) (w : World), Code.rounds P c Q n a w → Code.rounds P c Q' n a w
  | 0, _, _, h => h
  | n + 1, a, w, h => by
    rw [rounds_succ] at h ⊢
    refine wp_mono h ?_
    intro e a' w' he
    cases e with
    | normal => exact rounds_mono hq n a' w' he
    | exit id => exact hq _ _ _ he
    | goto l => exact hq _ _ _ he
    | ret => exact hq _ _ _ he
    | panic c => exact hq _ _ _ he
    | outgrown => exact hq _ _ _ he

theorem iter_sound {c : Code} {f : AS → Option (AExit × AS)} (hf : Sound P c f) (hnx : ∀ st e st', f st = some (e, st') → st.h.next ≤ st'.h.next) (n : Nat) : Sound P (.loop c) (iter f n) := by
  intro st st' e a w ρ I he ok hn hs hd
  refine wp_loop_rounds n ?_
  induction n generalizing st a w ρ I with
  | zero => cases he
  | succ n ih =>
    rw [rounds_succ]
    simp only [iter] at he
    obtain ⟨r, h1, he⟩ := bind_some' he
    obtain ⟨e1, s1⟩ := r
    have n1 := hnx _ _ _ h1
    simp only at he
    have n2 : s1.h.next ≤ st'.h.next := by
      split at he
      · exact iter_next hnx n _ _ _ he
      · cases he; exact Nat.le_refl _
    refine wp_mono (hf st s1 e1 a w ρ I h1 ok (fun id g1 g2 => hn id g1 (by omega)) hs hd) ?_
    rintro e' a' w' ⟨rfl, ρ1, I1, r1, r2, r3, r4⟩
    cases e1 with
    | normal =>
      have ok1 := ok.next r3
      have hn1 : ∀ id, s1.h.next ≤ id → id < st'.h.next → ρ1 id = none := by
        intro id g1 g2
        rw [r3.rho id (by omega)]
        exact hn id (by omega) g2
      have := ih s1 a' w' ρ1 I1 he ok1 hn1 r1 r2
      exact rounds_mono (fun e' a2 w2 ⟨q1, q2⟩ => ⟨q1, q2.after r3 r4⟩) n a' w' this
    | exit id => cases he; exact ⟨rfl, ρ1, I1, r1, r2, r3, r4⟩
    | ret => cases he; exact ⟨rfl, ρ1, I1, r1, r2, r3, r4⟩

theorem exec_sound {call : CallFn} (hcall : CallOk P call) (hm : P.follows .mixedOrders = true) {hint : Hints} (k : Nat) : ∀ (c : Code) (ac : AC), compCode P hint c = some ac → Sound P c (exec call k ac)
  | .skip, ac, hc => by
    cases hc
    intro st st' e a w ρ I he ok hn hs hd
    cases he
    exact wp_skip ⟨rfl, ρ, I, hs, hd, .refl ok.rel ok.fresh, .refl _⟩
  | .region id ops draw, ac, hc => by
    simp only [compCode] at hc
    obtain ⟨l, hl, hc⟩ := bind_some' hc
    intro st st' e a w ρ I he ok hn hs hd
    cases draw with
    | false =>
      cases hc
      simp only [exec] at he
      obtain ⟨s, h1, h2⟩ := map_some' he
      cases h2
      refine wp_region ?_
      have := execOps_wp hcall (Q := fun e' a' w' => e' = AExit.normal.conv ∧ Reach ρ I st.h w st' a' w') ops.toList l hl 0 (fun j => by simp) st st' a w ρ I h1 ok hn hs hd (fun a' w' hr => ⟨rfl, hr⟩)
      simpa [List.range_eq_range'] using this
    | true =>
      simp only [cond_true] at hc
      rcases bif_cases hc with ⟨ho, hc⟩ | ⟨_, hc⟩
      · cases hc
        simp only [exec] at he
        obtain ⟨s, h1, h2⟩ := map_some' he
        cases h2
        exact wp_region_any hm (execOps_any hcall hl ho h1 ok hn hs hd (fun a' w' hr => ⟨rfl, hr⟩))
      · obtain ⟨ho, hc⟩ := bif_some hc
        cases hc
        simp only [exec] at he
        obtain ⟨s, h1, h2⟩ := bind_some' he
        obtain ⟨s1, s2⟩ := s
        obtain ⟨h3, h4⟩ := bif_some h2
        cases h4
        exact wp_region_any hm (execOpsF_any hcall hl ho h1 h3 ok hn hs hd (fun a' w' hr => ⟨rfl, hr⟩))
  | .seq x y, ac, hc => by
    simp only [compCode] at hc
    obtain ⟨ax, hx, hc⟩ := bind_some' hc
    obtain ⟨ay, hy, hc⟩ := bind_some' hc
    cases hc
    intro st st' e a w ρ I he ok hn hs hd
    simp only [exec] at he
    obtain ⟨r, h1, he⟩ := bind_some' he
    obtain ⟨e1, s1⟩ := r
    have n1 := exec_next hcall k _ _ _ _ h1
    have sx := exec_sound hcall hm k x ax hx st s1 e1 a w ρ I h1 ok
    simp only at he
    have n2 : s1.h.next ≤ st'.h.next := by
      split at he
      · exact exec_next hcall k _ _ _ _ he
      · cases he; exact Nat.le_refl _
    refine wp_seq (wp_mono (sx (fun id g1 g2 => hn id g1 (by omega)) hs hd) ?_)
    rintro e' a' w' ⟨rfl, ρ1, I1, r1, r2, r3, r4⟩
    have ok1 := ok.next r3
    have hn1 : ∀ id, s1.h.next ≤ id → id < st'.h.next → ρ1 id = none := by
      intro id g1 g2
      rw [r3.rho id (by omega)]
      exact hn id (by omega) g2
    split at he
    · refine wp_mono (exec_sound hcall hm k y ay hy s1 st' e a' w' ρ1 I1 he ok1 hn1 r1 r2) ?_
      rintro e' a2 w2 ⟨rfl, hr⟩
      exact ⟨rfl, hr.after r3 r4⟩
    · rename_i hne
      cases he
      cases e with
      | normal => exact absurd rfl hne
      | exit id => exact ⟨rfl, ρ1, I1, r1, r2, r3, r4⟩
      | ret => exact ⟨rfl, ρ1, I1, r1, r2, r3, r4⟩
  | .cond c t f, ac, hc => by
    simp only [compCode] at hc
    obtain ⟨ar, h0, hc⟩ := bind_some' hc
    obtain ⟨ax, hx, hc⟩ := bind_some' hc
    obtain ⟨ay, hy, hc⟩ := bind_some' hc
    cases hc
    intro st st' e a w ρ I he ok hn hs hd
    simp only [exec] at he
    have hv := compArg_sound h0 hs
    split at he
    · rename_i b hb
      rw [hb] at hv
      have hv : a.eval c = .bool b := hv
      refine wp_cond hv ?_
      rcases bif_cases he with ⟨rfl, he⟩ | ⟨rfl, he⟩
      · exact exec_sound hcall hm k t ax hx st st' e a w ρ I he ok hn hs hd
      · exact exec_sound hcall hm k f ay hy st st' e a w ρ I he ok hn hs hd
    · cases he
  | .block id c, ac, hc => by
    simp only [compCode] at hc
    obtain ⟨ax, hx, rfl⟩ := map_some' hc
    intro st st' e a w ρ I he ok hn hs hd
    simp only [exec] at he
    obtain ⟨r, h1, h2⟩ := map_some' he
    obtain ⟨e1, s1⟩ := r
    simp only at h2
    have hst : s1 = st' := by split at h2 <;> (cases h2; rfl)
    subst hst
    refine wp_block (wp_mono (exec_sound hcall hm k c ax hx st s1 e1 a w ρ I h1 ok hn hs hd) ?_)
    rintro e' a' w' ⟨rfl, hr⟩
    cases e1 with
    | normal => cases h2; exact ⟨rfl, hr⟩
    | ret => cases h2; exact ⟨rfl, hr⟩
    | exit id' =>
      simp only at h2
      cases hb : Nat.beq id' id <;> rw [hb] at h2
      · cases h2
        have hne : id' ≠ id := fun e => by subst e; rw [Nat.beq_refl] at hb; cases hb
        simp only [AExit.conv, Exit.inBlock, hne, if_false]
        exact ⟨rfl, hr⟩
      · cases h2
        have heq := Nat.eq_of_beq_eq_true hb
        subst heq
        simp only [AExit.conv, Exit.inBlock, if_true]
        exact ⟨rfl, hr⟩
  | .loop c, ac, hc => by
    simp only [compCode] at hc
    obtain ⟨ax, hx, rfl⟩ := map_some' hc
    have := iter_sound (exec_sound hcall hm k c ax hx) (fun _ _ _ h => exec_next hcall k ax _ _ _ h) k
    intro st st' e a w ρ I he
    simp only [exec] at he
    exact this st st' e a w ρ I he
  | .exit id, ac, hc => by
    cases hc
    intro st st' e a w ρ I he ok hn hs hd
    cases he
    exact wp_exit ⟨rfl, ρ, I, hs, hd, .refl ok.rel ok.fresh, .refl _⟩
  | .ret, ac, hc => by
    cases hc
    intro st st' e a w ρ I he ok hn hs hd
    cases he
    exact wp_ret ⟨rfl, ρ, I, hs, hd, .refl ok.rel ok.fresh, .refl _⟩
  | .rangeFunc .., ac, hc => by cases hc
  | .scope .., ac, hc => by cases hc
  | .label .., ac, hc => by cases hc
  | .goto .., ac, hc => by cases hc
  | .refuse .., ac, hc => by cases hc
end
end Go.Ai
