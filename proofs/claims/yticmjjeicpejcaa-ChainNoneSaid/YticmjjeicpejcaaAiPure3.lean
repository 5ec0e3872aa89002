/-
  The operations that look at slots alone: structs, addresses, slices, and all of them together.
-/
import Derived.Test.YticmjjeicpejcaaAiPure2
set_option linter.unusedVariables false
set_option linter.unusedSimpArgs false
namespace Go.Ai
section
variable {ρ : Rho} {I : Nat → Prop} {hp : Hp}

theorem bind_some' {α β : Type} {x : Option α} {f : α → Option β} {b : β} (h : x.bind f = some b) : ∃ a, x = some a ∧ f a = some b := Option.bind_eq_some_iff.1 h
theorem map_some' {α β : Type} {x : Option α} {f : α → β} {b : β} (h : x.map f = some b) : ∃ a, x = some a ∧ f a = b := Option.map_eq_some_iff.1 h

theorem bif_some {α : Type} {c : Bool} {x : Option α} {y : α} (h : (bif c then x else none) = some y) : c = true ∧ x = some y := by
  cases c
  · cases h
  · exact ⟨rfl, h⟩

theorem bif_cases {α : Type} {c : Bool} {x y z : α} (h : (bif c then x else y) = z) : (c = true ∧ x = z) ∨ (c = false ∧ y = z) := by
  cases c
  · exact .inr ⟨rfl, h⟩
  · exact .inl ⟨rfl, h⟩

/-! ### Structs compared -/
theorem fieldEq_sound {P : Program} (d : Nat) (t : TypeId) {k : SK} {x y : AV} {X Y : Value} {e : Bool} (w : World)
    (hk : (match P.underlying t with
      | some (.int _) => some SK.int
      | some .bool => some SK.bool
      | some .string => some SK.str
      | _ => none) = some k) (hx : RV ρ I hp x X) (hy : RV ρ I hp y Y) (h : fieldEq k x y = some e) :
    (Op.equalIn (d + 1) t X Y).run P w = .ok e w ∧ (isAgg t).run P w = .ok false w := by
  cases hD : P.underlying t with
  | none => rw [hD] at hk; cases hk
  | some D =>
    rw [hD] at hk
    have hagg : isAggD D = false → (isAgg t).run P w = .ok false w := by
      intro hagg
      simp only [isAgg, Sem.run_bind, run_underlying hD, Result.andThen_ok]
      cases D <;> first | rfl | (simp [isAggD] at hagg)
    cases k <;> cases x <;> simp only [fieldEq, reduceCtorEq] at h <;> cases y <;> simp only [fieldEq, reduceCtorEq] at h
    case bool.bool.bool a b =>
      cases h
      obtain rfl : X = .bool a := hx
      obtain rfl : Y = .bool b := hy
      cases D <;> simp only [reduceCtorEq, Option.some.injEq] at hk
      exact ⟨run_equalIn_bool w d t a b hD, hagg rfl⟩
    case int.int.int k a k' b =>
      obtain rfl : X = .int k a := hx
      obtain rfl : Y = .int k' b := hy
      cases D <;> simp only [reduceCtorEq, Option.some.injEq] at hk
      split at h
      · subst_vars
        cases h
        exact ⟨run_equalIn_int w d t _ _ a b hD, hagg rfl⟩
      · cases h
    case str.str.str a b =>
      cases h
      obtain ⟨X, rfl, rfl⟩ := hx
      obtain ⟨Y, rfl, rfl⟩ := hy
      cases D <;> simp only [reduceCtorEq, Option.some.injEq] at hk
      exact ⟨by rw [run_equalIn_string w d t X Y hD, toList_data, toList_data], hagg rfl⟩

theorem cellsEq_sound {P : Program} (d : Nat) (xs ys : Array Value) (w : World) (as bs : List AV) (ha : RVs ρ I hp as xs.toList) (hb : RVs ρ I hp bs ys.toList) :
    ∀ (fs : List Field) (n : Nat) (ks : List SK) (r : Bool), fieldKinds P fs n = some ks → as.length = n + ks.length → bs.length = n + ks.length → cellsEq ks (as.drop n) (bs.drop n) = some r →
    (Op.eqFields (d + 1) xs ys fs).run P w = .ok r w
  | [], n, ks, r, hf, h1, h2, h => by
    cases hf
    rw [List.drop_eq_nil_of_le (by simp at h1; omega), List.drop_eq_nil_of_le (by simp at h2; omega)] at h
    cases h
    rfl
  | f :: fs, n, ks, r, hf, h1, h2, h => by
    simp only [fieldKinds] at hf
    cases g1 : Nat.beq f.offset n <;> rw [g1] at hf
    · cases hf
    cases g2 : (f.name == "_") <;> rw [g2] at hf
    case true => cases hf
    simp only [Bool.not_false, Bool.and_self, cond_true] at hf
    obtain ⟨k, hk, hf⟩ := bind_some' hf
    obtain ⟨ks', hks, hf⟩ := bind_some' hf
    cases hf
    simp only [List.length_cons] at h1 h2
    have g1 : f.offset = n := Nat.eq_of_beq_eq_true g1
    have hn1 : n < as.length := by omega
    have hn2 : n < bs.length := by omega
    rw [List.drop_eq_getElem_cons hn1, List.drop_eq_getElem_cons hn2] at h
    obtain ⟨X, e1, r1⟩ := RVs_get as _ ha n as[n] (List.getElem?_eq_getElem hn1)
    obtain ⟨Y, e2, r2⟩ := RVs_get bs _ hb n bs[n] (List.getElem?_eq_getElem hn2)
    generalize as[n] = x at *
    generalize bs[n] = y at *
    have ih := cellsEq_sound d xs ys w as bs ha hb fs (n + 1) ks' r hks (by omega) (by omega)
    have p1 : xs[f.offset]? = some X := by rw [g1, ← Array.getElem?_toList]; exact e1
    have p2 : ys[f.offset]? = some Y := by rw [g1, ← Array.getElem?_toList]; exact e2
    have hne : f.name ≠ "_" := by simpa using g2
    simp only [cellsEq] at h
    cases he : fieldEq k x y with
    | none => rw [he] at h; cases h
    | some e =>
      rw [he] at h
      obtain ⟨heq, hagg⟩ := fieldEq_sound d f.type w hk r1 r2 he
      have hpart : ∀ (cs : Array Value) (Z : Value), cs[f.offset]? = some Z → (part f.type cs f.offset).run P w = .ok Z w := by
        intro cs Z hZ
        simp only [part, Sem.run_bind, hagg, Result.andThen_ok, Bool.false_eq_true, if_false, hZ]
        rfl
      simp only [Op.eqFields, hne, ne_eq, not_false_eq_true, if_true, Sem.run_bind, hpart xs X p1, hpart ys Y p2, Result.andThen_ok, heq]
      cases e with
      | true => simpa using ih h
      | false => cases h; rfl

/-! ### Structs built -/
theorem foldl_sets (off : Nat) : ∀ (l : List Value) (m : Nat) (cs : Array Value), off + m + l.length ≤ cs.size →
    ((l.zipIdx m).foldl (fun cs p => cs.setIfInBounds (off + p.2) p.1) cs).toList = cs.toList.take (off + m) ++ l ++ cs.toList.drop (off + m + l.length)
  | [], m, cs, _ => by simp
  | x :: l, m, cs, h => by
    simp only [List.length_cons] at h
    simp only [List.zipIdx_cons, List.foldl_cons]
    rw [foldl_sets off l (m + 1) _ (by simp; omega)]
    have hlt : off + m < cs.toList.length := by simp; omega
    simp only [Array.toList_setIfInBounds]
    rw [show off + (m + 1) = off + m + 1 by omega, List.take_succ_eq_append_getElem (by simp; omega)]
    rw [List.take_set_of_le (Nat.le_refl _), List.getElem_set_self, List.drop_set_of_lt (by omega)]
    simp only [List.append_assoc, List.singleton_append, List.cons_append, List.length_cons, List.nil_append]
    rw [show off + m + 1 + l.length = off + m + (l.length + 1) by omega]

theorem fill_sound {P : Program} {place : Nat → Option (Nat × Nat)} {sl : List AV} {a : Act} (hs : Slots ρ I hp sl a) :
    ∀ (parts : List (Nat × Operand)) (ps : List (Nat × Nat × Arg)) (zero : List AV) (zs : Array Value) (cs : List AV), compParts P place parts = some ps →
    RVs ρ I hp zero zs.toList → allCells zs.toList → fillA zero (ps.map fun p => (p.1, p.2.1, p.2.2.val sl)) = some cs →
    ∃ out, Instr.fill place zs (parts.map fun p => (p.1, a.eval p.2)) = some out ∧ RVs ρ I hp cs out.toList ∧ allCells out.toList
  | [], ps, zero, zs, cs, hc, hz, hcell, h => by
    cases hc
    cases h
    exact ⟨zs, rfl, hz, hcell⟩
  | (i, x) :: parts, ps, zero, zs, cs, hc, hz, hcell, h => by
    simp only [compParts] at hc
    obtain ⟨p, hp1, hc⟩ := bind_some' hc
    obtain ⟨ar, hp2, hc⟩ := bind_some' hc
    obtain ⟨ps', hp3, hc⟩ := bind_some' hc
    cases hc
    simp only [List.map_cons, fillA] at h
    cases e1 : (ar.val sl).cellOk <;> rw [e1] at h
    · cases h
    cases e2 : Nat.beq (ar.val sl).cells.length p.2 <;> rw [e2] at h
    · cases h
    cases e3 : Nat.ble (p.1 + p.2) zero.length <;> rw [e3] at h
    · cases h
    simp only [Bool.and_self, cond_true] at h
    have e2 := Nat.eq_of_beq_eq_true e2
    have e3 := Nat.le_of_ble_eq_true e3
    have hv := compArg_sound hp2 hs
    obtain ⟨g1, g2⟩ := RV_cells hv e1
    have l1 := RVs_length _ _ g1
    have l2 := RVs_length _ _ hz
    simp only [Array.length_toList] at l1 l2
    obtain ⟨off, size⟩ := p
    simp only at e2 e3 h
    have hset := foldl_sets off (a.eval x).cells.toList 0 zs (by simp; omega)
    simp only [Nat.add_zero, Array.length_toList] at hset
    have hsize : (a.eval x).cells.size = size := by omega
    rw [hsize] at hset
    generalize hnew : ((a.eval x).cells.toList.zipIdx 0).foldl (fun cs p => cs.setIfInBounds (off + p.2) p.1) zs = new at hset
    obtain ⟨out, o1, o2, o3⟩ := fill_sound hs parts ps' (zero.take off ++ (ar.val sl).cells ++ zero.drop (off + size)) new cs hp3
      (by rw [hset]; exact RVs_append (RVs_append (RVs_take hz off) g1) (RVs_drop hz _))
      (by
        rw [hset]
        intro v hv
        simp only [List.mem_append] at hv
        rcases hv with (hv | hv) | hv
        · exact hcell v (List.mem_of_mem_take hv)
        · exact g2 v hv
        · exact hcell v (List.mem_of_mem_drop hv)) h
    refine ⟨out, ?_, o2, o3⟩
    simp only [List.map_cons, Instr.fill, hp1]
    have hcond : ¬ ((a.eval x).cells.size ≠ size || off + (a.eval x).cells.size > zs.size) = true := by
      simp only [Bool.or_eq_true, decide_eq_true_eq, not_or]
      omega
    rw [if_neg (by simpa using hcond)]
    have : (a.eval x).cells.zipIdx.foldl (fun cs x => cs.setIfInBounds (off + x.snd) x.fst) zs = new := by
      rw [← hnew, ← Array.foldl_toList, Array.toList_zipIdx]
    rw [this]
    exact o1

end
end Go.Ai
