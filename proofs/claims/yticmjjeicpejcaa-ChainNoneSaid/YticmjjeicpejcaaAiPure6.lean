/-
  Every operation that looks at slots alone.
-/
import Derived.Test.YticmjjeicpejcaaAiPure5
set_option linter.unusedVariables false
set_option linter.unusedSimpArgs false
namespace Go.Ai
section
variable {ρ : Rho} {I : Nat → Prop} {hp : Hp} {P : Program}

theorem idx_spec {l : List AV} {i : Int} {v : AV} (h : idx l i = some v) : 0 ≤ i ∧ i < l.length ∧ l[i.toNat]? = some v := by
  unfold idx at h
  split at h
  · rename_i h0
    have : i.toNat < l.length := by
      rcases Nat.lt_or_ge i.toNat l.length with g | g
      · exact g
      · rw [List.getElem?_eq_none g] at h; cases h
    exact ⟨h0, by omega, h⟩
  · cases h

theorem run_indexAt_sl {t e : TypeId} {i : TypeInfo} (ht : P.underlying t = some (.slice e)) (hi : P.info? e = some i) {a : Addr} {len cap : Nat} {k : IntKind} {n : Int} (h0 : 0 ≤ n) (h1 : n < len) (w : World) :
    (Instr.indexAt t (.slice (some a) len cap) (.int k n)).run P w = .ok (.pointer (some (a.add (n.toNat * i.size)))) w := by
  simp [Instr.indexAt, run_underlying ht, asIntOf, h0, h1, run_sizeOf' hi]

theorem indexAddr_sound {t e : TypeId} {i : TypeInfo} (ht : P.underlying t = some (.slice e)) (hi : P.info? e = some i) {x y v : AV} {X Y : Value} (hx : RV ρ I hp x X) (hy : RV ρ I hp y Y)
    {sl : List AV} {ax ay : Arg} (ex : ax.val sl = x) (ey : ay.val sl = y) (h : pureV sl (.indexAddr i.size ax ay) = some v) (w : World) :
    ∃ cv, (Instr.indexAt t X Y).run P w = .ok cv w ∧ RV ρ I hp v cv := by
  simp only [pureV, ex, ey] at h
  cases y <;> simp only [reduceCtorEq] at h
  rename_i k n
  obtain rfl : Y = .int k n := hy
  cases x <;> simp only [reduceCtorEq] at h
  case list es =>
    obtain ⟨c, hc, h⟩ := bind_some' h
    obtain ⟨h0, h1, h2⟩ := idx_spec hc
    cases e1 : c.cellOk <;> rw [e1] at h
    · cases h
    cases e2 : Nat.beq c.cells.length i.size <;> rw [e2] at h
    · cases h
    cases h
    have e2 := Nat.eq_of_beq_eq_true e2
    obtain ⟨A, cap, rfl, hcap, hes⟩ := hx
    rcases hes with rfl | ⟨b, o, vs, m, rfl, hI, hlie, hrv, hn⟩
    · simp at h2
    · obtain ⟨V, hV, hcV⟩ := RVs_get _ _ hrv _ _ h2
      have hm : V.cells.size = m := hn V (List.mem_of_getElem? hV)
      have h5 := (RV_cells hcV e1).1
      have h6 := RVs_length _ _ h5
      rw [Array.length_toList] at h6
      have hmi : m = i.size := by omega
      rw [hmi] at hn
      refine ⟨_, run_indexAt_sl ht hi h0 h1 w, ?_⟩
      rw [add_none]
      simp only [RV]
      refine ⟨b, o + n.toNat * i.size, V.cells.toList, rfl, hI, ?_, h5⟩
      have := hlie.part hn (l := n.toNat) (m := 1) (by rw [RVs_length _ _ hrv]; omega)
      have hlt : n.toNat < vs.length := by rw [RVs_length _ _ hrv]; omega
      rw [List.drop_eq_getElem_cons hlt] at this
      have hVe : vs[n.toNat] = V := by rw [List.getElem?_eq_getElem hlt] at hV; exact Option.some.inj hV
      rw [hVe] at this
      simpa [vflat] using this
  case sref id off len cap ek =>
    cases e0 : Nat.beq ek.size i.size <;> rw [e0] at h
    · cases h
    have e0 := Nat.eq_of_beq_eq_true e0
    simp only [cond_true] at h
    split at h
    · rename_i hn
      cases h
      obtain ⟨b, o, c, hρ, rfl, _⟩ := hx
      refine ⟨_, run_indexAt_sl ht hi hn.1 hn.2 w, ?_⟩
      rw [add_none]
      simp only [RV]
      exact ⟨b, o, hρ, by rw [Nat.add_assoc]⟩
    · cases h

theorem minmax_max : ∀ {k : IntKind} {a r : Int} {xs : List AV} {Xs : List Value}, minmaxV true k a xs = some r → RVs ρ I hp xs Xs → ∀ (w : World),
    (Xs.foldlM Builtin.max2 (.int k a)).run P w = .ok (.int k r) w
  | k, a, r, [], Xs, h, hx, w => by cases h; cases hx; rfl
  | k, a, r, x :: xs, Xs, h, hx, w => by
    obtain ⟨X, Xs', rfl, h1, h2⟩ := hx
    cases x <;> simp only [minmaxV, reduceCtorEq] at h
    rename_i k' b
    have hX : X = Value.int k' b := h1
    subst hX
    split at h
    · rename_i hk
      subst hk
      simp only [List.foldlM_cons, Builtin.max2, Sem.run_bind, Sem.run_pure, Result.andThen_ok]
      exact minmax_max h h2 w
    · cases h
theorem minmax_min : ∀ {k : IntKind} {a r : Int} {xs : List AV} {Xs : List Value}, minmaxV false k a xs = some r → RVs ρ I hp xs Xs → ∀ (w : World),
    (Xs.foldlM Builtin.min2 (.int k a)).run P w = .ok (.int k r) w
  | k, a, r, [], Xs, h, hx, w => by cases h; cases hx; rfl
  | k, a, r, x :: xs, Xs, h, hx, w => by
    obtain ⟨X, Xs', rfl, h1, h2⟩ := hx
    cases x <;> simp only [minmaxV, reduceCtorEq] at h
    rename_i k' b
    have hX : X = Value.int k' b := h1
    subst hX
    split at h
    · rename_i hk
      subst hk
      simp only [List.foldlM_cons, Builtin.min2, Sem.run_bind, Sem.run_pure, Result.andThen_ok]
      exact minmax_min h h2 w
    · cases h

theorem fieldPlaces_spec : ∀ {fs : List Field} {pl : List (Nat × Nat)}, fieldPlaces P fs = some pl → fs.mapM (fun f => (P.info? f.type).map fun i => (f.offset, i.size)) = some pl
  | [], pl, h => by cases h; rfl
  | f :: fs, pl, h => by
    simp only [fieldPlaces] at h
    obtain ⟨i, h1, h⟩ := bind_some' h
    obtain ⟨r, h2, h⟩ := bind_some' h
    cases h
    simp [List.mapM_cons, h1, fieldPlaces_spec h2]

/-- What an operation gives. -/
def Gives (P : Program) (ρ : Rho) (I : Nat → Prop) (hp : Hp) (s : Sem Next) (v : AV) (w : World) : Prop := ∃ cv, s.run P w = .ok (.value cv) w ∧ RV ρ I hp v cv

theorem Gives.of {s : Sem Value} {v : AV} {w : World} (h : ∃ cv, s.run P w = .ok cv w ∧ RV ρ I hp v cv) : Gives P ρ I hp (do pure (.value (← s))) v w := by
  obtain ⟨cv, h1, h2⟩ := h
  exact ⟨cv, by simp [h1], h2⟩

theorem compLen_spec {xs : List Operand} {ts : List TypeId} {ao : AOp} (h : compLen P xs ts = some ao) : ∃ x t a, xs = [x] ∧ ts = [t] ∧ hasLen P t = true ∧ compArg x = some a ∧ ao = .len (eqKOf P t) a := by
  unfold compLen at h
  split at h
  · obtain ⟨h1, h⟩ := bif_some h
    obtain ⟨a, h2, rfl⟩ := map_some' h
    exact ⟨_, _, a, rfl, rfl, h1, h2, rfl⟩
  · cases h

theorem compAppend_spec {xs : List Operand} {ts : List TypeId} {ao : AOp} (h : compAppend P xs ts = some ao) :
    ∃ x y t u e e' k b z a d, xs = [x, y] ∧ ts = [t, u] ∧ sliceElem P t = some e ∧ sliceElem P u = some e' ∧ ekOf P e = some k ∧ bytesOf P e = some b ∧ zeroOf P e = some z ∧ z.cells.length = k.size ∧
      compArg x = some a ∧ compArg y = some d ∧ ao = .append k b a d := by
  unfold compAppend at h
  split at h
  · obtain ⟨e, h1, h⟩ := bind_some' h
    obtain ⟨e', h2, h⟩ := bind_some' h
    obtain ⟨k, h3, h⟩ := bind_some' h
    obtain ⟨b, h4, h⟩ := bind_some' h
    obtain ⟨z, h5, h⟩ := bind_some' h
    obtain ⟨h6, h⟩ := bif_some h
    obtain ⟨a, h7, h⟩ := bind_some' h
    obtain ⟨d, h8, h⟩ := bind_some' h
    cases h
    exact ⟨_, _, _, _, e, e', k, b, z, a, d, rfl, rfl, h1, h2, h3, h4, h5, Nat.eq_of_beq_eq_true h6, h7, h8, rfl⟩
  · cases h

theorem compCopy_spec {xs : List Operand} {ts : List TypeId} {ao : AOp} (h : compCopy P xs ts = some ao) :
    ∃ x y t u e e' k a d, xs = [x, y] ∧ ts = [t, u] ∧ sliceElem P t = some e ∧ sliceElem P u = some e' ∧ ekOf P e = some k ∧ compArg x = some a ∧ compArg y = some d ∧ ao = .copy k a d := by
  unfold compCopy at h
  split at h
  · obtain ⟨e, h1, h⟩ := bind_some' h
    obtain ⟨e', h2, h⟩ := bind_some' h
    obtain ⟨k, h3, h⟩ := bind_some' h
    obtain ⟨a, h7, h⟩ := bind_some' h
    obtain ⟨d, h8, h⟩ := bind_some' h
    cases h
    exact ⟨_, _, _, _, e, e', k, a, d, rfl, rfl, h1, h2, h3, h7, h8, rfl⟩
  · cases h

theorem compClear_spec {xs : List Operand} {ts : List TypeId} {ao : AOp} (h : compClear P xs ts = some ao) :
    ∃ x t e k z a, xs = [x] ∧ ts = [t] ∧ sliceElem P t = some e ∧ ekOf P e = some k ∧ zeroOf P e = some z ∧ compArg x = some a ∧ ao = .clear k z.cells a := by
  unfold compClear at h
  split at h
  · obtain ⟨e, h1, h⟩ := bind_some' h
    obtain ⟨k, h3, h⟩ := bind_some' h
    obtain ⟨z, h4, h⟩ := bind_some' h
    obtain ⟨a, h7, h⟩ := bind_some' h
    cases h
    exact ⟨_, _, e, k, z, a, rfl, rfl, h1, h3, h4, h7, rfl⟩
  · cases h

theorem compDelete_spec {xs : List Operand} {ts : List TypeId} {ao : AOp} (h : compDelete P xs ts = some ao) :
    ∃ x k t u kt kk a b, xs = [x, k] ∧ ts = [t, u] ∧ mapKey P t = some kt ∧ keyKind P kt = some kk ∧ compArg x = some a ∧ compArg k = some b ∧ ao = .delete kk a b := by
  unfold compDelete at h
  split at h
  · obtain ⟨kt, h1, h⟩ := bind_some' h
    obtain ⟨kk, h2, h⟩ := bind_some' h
    obtain ⟨a, h7, h⟩ := bind_some' h
    obtain ⟨d, h8, h⟩ := bind_some' h
    cases h
    exact ⟨_, _, _, _, kt, kk, a, d, rfl, rfl, h1, h2, h7, h8, rfl⟩
  · cases h

theorem sliceElem_spec {t e : TypeId} (h : sliceElem P t = some e) : P.underlying t = some (.slice e) := by
  unfold sliceElem at h
  split at h
  · cases h; assumption
  · cases h
theorem mapKey_spec {t e : TypeId} (h : mapKey P t = some e) : ∃ x, P.underlying t = some (.map e x) := by
  unfold mapKey at h
  split at h
  · cases h; exact ⟨_, by assumption⟩
  · cases h

theorem compBuiltin_S {rt : TypeId} {b : Builtin} {as : List Operand} {ts : List TypeId} {ao : AOp} (hc : compBuiltin P rt b as ts = some ao) (hcls : ao.cls = .S) :
    (b = .max ∧ ∃ ars, compArgs as = some ars ∧ ao = .minmax true ars) ∨ (b = .min ∧ ∃ ars, compArgs as = some ars ∧ ao = .minmax false ars) := by
  unfold compBuiltin at hc
  split at hc
  · obtain ⟨_, _, _, _, _, _, _, rfl⟩ := compLen_spec hc; cases hcls
  · obtain ⟨_, _, _, _, _, _, _, _, _, _, _, _, _, _, _, _, _, _, _, _, _, rfl⟩ := compAppend_spec hc; cases hcls
  · obtain ⟨_, _, _, _, _, _, _, _, _, _, _, _, _, _, _, _, rfl⟩ := compCopy_spec hc; cases hcls
  · obtain ⟨_, _, _, _, _, _, _, _, _, _, _, _, rfl⟩ := compClear_spec hc; cases hcls
  · obtain ⟨_, _, _, _, _, _, _, _, _, _, _, _, _, _, rfl⟩ := compDelete_spec hc; cases hcls
  · obtain ⟨_, hc⟩ := bif_some hc
    obtain ⟨ars, h1, rfl⟩ := map_some' hc
    exact .inl ⟨rfl, ars, h1, rfl⟩
  · obtain ⟨_, hc⟩ := bif_some hc
    obtain ⟨ars, h1, rfl⟩ := map_some' hc
    exact .inr ⟨rfl, ars, h1, rfl⟩
  · cases hc

theorem pureV_sound {hint : Hints} {o : Oper} {ao : AOp} (hc : compOp P hint o = some ao) (hcls : ao.cls = .S) {sl : List AV} {a : Act} (hs : Slots ρ I hp sl a) {v : AV} (hv : pureV sl ao = some v) (w : World) :
    Gives P ρ I hp (execOp a.eval o) v w := by
  cases hop : o.op <;> simp only [compOp, hop, reduceCtorEq] at hc
  case move x =>
    obtain ⟨ar, h1, rfl⟩ := map_some' hc
    cases hv
    exact ⟨a.eval x, by simp [execOp, hop], compArg_sound h1 hs⟩
  case assign x =>
    obtain ⟨ar, h1, rfl⟩ := map_some' hc
    cases hv
    exact ⟨a.eval x, by simp [execOp, hop], compArg_sound h1 hs⟩
  case pick c x y =>
    obtain ⟨ac, h1, hc⟩ := bind_some' hc
    obtain ⟨ax, h2, hc⟩ := bind_some' hc
    obtain ⟨ay, h3, hc⟩ := bind_some' hc
    cases hc
    simp only [pureV] at hv
    have g1 := compArg_sound h1 hs
    have g2 := compArg_sound h2 hs
    have g3 := compArg_sound h3 hs
    generalize ac.val sl = cv at *
    cases cv <;> simp only [reduceCtorEq] at hv
    rename_i t
    cases hv
    have g1 : a.eval c = .bool t := g1
    refine ⟨if t then a.eval x else a.eval y, by simp [execOp, hop, g1, asBool], ?_⟩
    cases t <;> simp [g2, g3]
  case alloc t =>
    obtain ⟨z, h1, hc⟩ := bind_some' hc
    obtain ⟨e, h2, hc⟩ := bind_some' hc
    cases hc; cases hcls
  case box t x =>
    obtain ⟨e, h2, hc⟩ := bind_some' hc
    obtain ⟨ar, h2, hc⟩ := bind_some' hc
    cases hc; cases hcls
  case build t parts =>
    cases hd : P.underlying t with
    | none => rw [hd] at hc; cases hc
    | some d =>
      rw [hd] at hc
      cases d <;> simp only [reduceCtorEq] at hc
      rename_i fs
      obtain ⟨z, h1, hc⟩ := bind_some' hc
      obtain ⟨pl, h2, hc⟩ := bind_some' hc
      obtain ⟨ps, h3, hc⟩ := bind_some' hc
      cases hc
      simp only [pureV] at hv
      obtain ⟨cs, h4, rfl⟩ := map_some' hv
      obtain ⟨i, zv, hi, hz, hcz⟩ := zeroOf_spec h1
      obtain ⟨g1, g2, _⟩ := constOf_cells (ρ := ρ) (I := I) (hp := hp) hcz
      obtain ⟨out, o1, o2, o3⟩ := fill_sound hs parts.toList ps _ _ cs h3 g1 g2 h4
      have hb : P.built t (parts.map fun (i, x) => (i, a.eval x)).toList = some out := by
        simp only [Program.built, hi, hd, hz, fieldPlaces_spec h2, Array.toList_map]
        simpa using o1
      refine ⟨.agg out, ?_, out, rfl, o2, o3⟩
      simp only [execOp, hop]
      simp [run_build w t _ out hb]
  case buildSlice t len parts =>
    cases hd : P.underlying t with
    | none => rw [hd] at hc; cases hc
    | some d =>
      rw [hd] at hc
      cases d <;> simp only [reduceCtorEq] at hc
      obtain ⟨z, h1, hc⟩ := bind_some' hc
      obtain ⟨pl, h2, hc⟩ := bind_some' hc
      obtain ⟨_, hc⟩ := bif_some hc
      obtain ⟨ps, h3, hc⟩ := bind_some' hc
      cases hc; cases hcls
  case load t x =>
    obtain ⟨_, _, hc⟩ := bind_some' hc
    obtain ⟨_, _, hc⟩ := bind_some' hc
    cases hc; cases hcls
  case store t x y =>
    obtain ⟨_, _, hc⟩ := bind_some' hc
    obtain ⟨_, _, hc⟩ := bind_some' hc
    obtain ⟨_, _, hc⟩ := bind_some' hc
    cases hc; cases hcls
  case makeSlice t l c =>
    cases hd : P.underlying t with
    | none => rw [hd] at hc; cases hc
    | some d =>
      rw [hd] at hc
      cases d <;> simp only [reduceCtorEq] at hc
      obtain ⟨_, _, hc⟩ := bind_some' hc
      obtain ⟨_, _, hc⟩ := bind_some' hc
      obtain ⟨_, _, hc⟩ := bind_some' hc
      obtain ⟨_, _, hc⟩ := bind_some' hc
      obtain ⟨_, _, hc⟩ := bind_some' hc
      cases hc; cases hcls
  case makeMap t r =>
    cases r <;> simp only [reduceCtorEq] at hc
    cases hd : P.underlying t with
    | none => rw [hd] at hc; cases hc
    | some d =>
      rw [hd] at hc
      cases d <;> simp only [reduceCtorEq] at hc
      cases hc; cases hcls
  case lookup t x k ok =>
    cases hd : P.underlying t with
    | none => rw [hd] at hc; cases hc
    | some d =>
      rw [hd] at hc
      cases d <;> simp only [reduceCtorEq] at hc
      obtain ⟨_, _, hc⟩ := bind_some' hc
      obtain ⟨_, _, hc⟩ := bind_some' hc
      obtain ⟨_, _, hc⟩ := bind_some' hc
      obtain ⟨_, _, hc⟩ := bind_some' hc
      cases hc; cases hcls
  case mapUpdate t m k x =>
    cases hd : P.underlying t with
    | none => rw [hd] at hc; cases hc
    | some d =>
      rw [hd] at hc
      cases d <;> simp only [reduceCtorEq] at hc
      obtain ⟨_, _, hc⟩ := bind_some' hc
      obtain ⟨_, _, hc⟩ := bind_some' hc
      obtain ⟨_, _, hc⟩ := bind_some' hc
      obtain ⟨_, _, hc⟩ := bind_some' hc
      cases hc; cases hcls
  case insert t m k x =>
    cases hd : P.underlying t with
    | none => rw [hd] at hc; cases hc
    | some d =>
      rw [hd] at hc
      cases d <;> simp only [reduceCtorEq] at hc
      obtain ⟨_, _, hc⟩ := bind_some' hc
      obtain ⟨_, _, hc⟩ := bind_some' hc
      obtain ⟨_, _, hc⟩ := bind_some' hc
      obtain ⟨_, _, hc⟩ := bind_some' hc
      cases hc; cases hcls
  case nilCheck x =>
    obtain ⟨ar, h1, rfl⟩ := map_some' hc
    have g := compArg_sound h1 hs
    simp only [pureV] at hv
    generalize ar.val sl = x' at *
    cases x' <;> simp only [reduceCtorEq] at hv <;> cases hv
    case ptr id off =>
      have g' := g
      obtain ⟨b, o, _, e⟩ := g
      exact ⟨a.eval x, by simp [execOp, hop, e], g'⟩
    case iptr cs =>
      have g' := g
      obtain ⟨b, o, vs, e, _⟩ := g
      exact ⟨a.eval x, by simp [execOp, hop, e], g'⟩
    case func f cs =>
      have g' := g
      obtain ⟨cap, e, _⟩ := g
      exact ⟨a.eval x, by simp [execOp, hop, e], g'⟩
  case binOp op t x y yt =>
    cases hd : P.underlying t with
    | none => rw [hd] at hc; cases hc
    | some d =>
      rw [hd] at hc
      have hgen : (∀ fs, d ≠ .struct fs) → ((compArg x).bind fun a => (compArg y).bind fun b => some (AOp.bin op (eqKOf P t) a b)) = some ao → Gives P ρ I hp (execOp a.eval o) v w := by
        intro _ hc
        obtain ⟨ax, h2, hc⟩ := bind_some' hc
        obtain ⟨ay, h3, hc⟩ := bind_some' hc
        cases hc
        have g2 := compArg_sound h2 hs
        have g3 := compArg_sound h3 hs
        simp only [pureV] at hv
        generalize ax.val sl = x' at *
        generalize ay.val sl = y' at *
        have hrun : ∀ {cv : Value}, (eqGuard op t x y (a.eval x) (a.eval y)).run P w = .ok () w → (binOp op t (a.eval x) (a.eval y)).run P w = .ok cv w → RV ρ I hp v cv → Gives P ρ I hp (execOp a.eval o) v w := by
          intro cv e1 e2 e3
          exact ⟨cv, by simp [execOp, hop, e1, e2], e3⟩
        have hguard : ∀ {X Y : Value}, (X ≠ .nilIface) → (∀ c, X ≠ .agg c) → (eqGuard op t x y X Y).run P w = .ok () w := by
          intro X Y n1 n2
          cases op <;> simp only [eqGuard] <;> first
            | rfl
            | (cases X <;> first | exact absurd rfl n1 | (exact absurd rfl (n2 _)) | rfl)
        have hother : ∀ (r : Bool), eqV (eqKOf P t) x' y' = some r → ∀ (e : eqC (eqKOf P t) (a.eval x) (a.eval y) = some r), (eqGuard op t x y (a.eval x) (a.eval y)).run P w = .ok () w := by
          intro r _ e
          refine hguard ?_ ?_
          · intro hX; rw [hX] at e; unfold eqC at e; split at e <;> simp_all
          · intro c hX; rw [hX] at e; unfold eqC at e; split at e <;> simp_all
        have hbin : ∀ {b : AV}, binV op (eqKOf P t) x' y' = some b → (∀ k m k' n, ¬ (x' = .int k m ∧ y' = .int k' n)) → (∀ m n, ¬ (x' = .str m ∧ y' = .str n)) →
            (op = .eql ∧ ∃ r, eqV (eqKOf P t) x' y' = some r ∧ b = .bool r) ∨ (op = .neq ∧ ∃ r, eqV (eqKOf P t) x' y' = some r ∧ b = .bool !r) := by
          intro b hb n1 n2
          unfold binV at hb
          split at hb
          · exact absurd ⟨rfl, rfl⟩ (n1 _ _ _ _)
          · exact absurd ⟨rfl, rfl⟩ (n2 _ _)
          · split at hb
            · obtain ⟨r, e, rfl⟩ := map_some' hb
              exact .inl ⟨rfl, r, e, rfl⟩
            · obtain ⟨r, e, rfl⟩ := map_some' hb
              exact .inr ⟨rfl, r, e, rfl⟩
            · cases hb
        by_cases hint : ∃ k m k' n, x' = .int k m ∧ y' = .int k' n
        · obtain ⟨k, m, k', n, rfl, rfl⟩ := hint
          have e1 : a.eval x = .int k m := g2
          have e2 : a.eval y = .int k' n := g3
          simp only [binV] at hv
          split at hv
          · rename_i hk
            subst hk
            obtain ⟨cv, c1, c2⟩ := intBin_sound (ρ := ρ) (I := I) (hp := hp) hv P t w
            exact hrun (hguard (by rw [e1]; simp) (by rw [e1]; simp)) (by rw [e1, e2]; exact c1) c2
          · cases hv
        · by_cases hstr : ∃ m n, x' = .str m ∧ y' = .str n
          · obtain ⟨m, n, rfl, rfl⟩ := hstr
            obtain ⟨X, e1, rfl⟩ := g2
            obtain ⟨Y, e2, rfl⟩ := g3
            obtain ⟨cv, c1, c2⟩ := strBin_sound (ρ := ρ) (I := I) (hp := hp) hv P t w
            exact hrun (hguard (by rw [e1]; simp) (by rw [e1]; simp)) (by rw [e1, e2]; exact c1) c2
          · rcases hbin hv (fun k m k' n h => hint ⟨k, m, k', n, h⟩) (fun m n h => hstr ⟨m, n, h⟩) with ⟨rfl, r, e, rfl⟩ | ⟨rfl, r, e, rfl⟩
            · have ec := eqV_sound e g2 g3
              exact hrun (hother r e ec) (eqC_sound ec w).1 rfl
            · have ec := eqV_sound e g2 g3
              exact hrun (hother r e ec) (eqC_sound ec w).2 rfl
      by_cases hst : ∃ fs, d = .struct fs
      · obtain ⟨fs, rfl⟩ := hst
        obtain ⟨hb, hc⟩ := bif_some hc
        simp only [Bool.and_eq_true, Bool.not_eq_true'] at hb
        obtain ⟨ks, h1, hc⟩ := bind_some' hc
        obtain ⟨ax, h2, hc⟩ := bind_some' hc
        obtain ⟨ay, h3, hc⟩ := bind_some' hc
        have g2 := compArg_sound h2 hs
        have g3 := compArg_sound h3 hs
        have hfs : P.fieldsOf t = fs := by simp [Program.fieldsOf, hd]
        have core : ∀ (neq : Bool), pureV sl (.eqs neq ks ax ay) = some v → ∃ xs ys r, a.eval x = .agg xs ∧ a.eval y = .agg ys ∧ (Op.equalIn 10000 t (.agg xs) (.agg ys)).run P w = .ok r w ∧ v = .bool (bif neq then !r else r) := by
          intro neq hv
          simp only [pureV] at hv
          generalize ax.val sl = x' at *
          generalize ay.val sl = y' at *
          cases x' <;> first | (simp only [reduceCtorEq] at hv; done) | skip
          cases y' <;> first | (simp only [reduceCtorEq] at hv; done) | skip
          obtain ⟨hl, hv⟩ := bif_some hv
          obtain ⟨r, hr, rfl⟩ := map_some' hv
          simp only [Bool.and_eq_true] at hl
          obtain ⟨xs, e1, r1, _⟩ := g2
          obtain ⟨ys, e2, r2, _⟩ := g3
          refine ⟨xs, ys, r, e1, e2, ?_, rfl⟩
          rw [show (10000 : Nat) = 9999 + 1 by rfl, run_equalIn_agg w 9999 t xs ys (by rw [hfs]; exact hd) hb.2, hfs]
          exact cellsEq_sound 9998 xs ys w _ _ r1 r2 fs.toList 0 ks r h1 (by simpa using Nat.eq_of_beq_eq_true hl.1) (by simpa using Nat.eq_of_beq_eq_true hl.2) (by simpa using hr)
        cases op <;> simp only [reduceCtorEq] at hc
        case eql =>
          cases hc
          obtain ⟨xs, ys, r, e1, e2, e3, rfl⟩ := core false hv
          refine ⟨.bool r, ?_, rfl⟩
          simp [execOp, hop, e1, e2, run_eqGuard_agg w .eql t x y xs ys hb.1, run_eql_struct, e3]
        case neq =>
          cases hc
          obtain ⟨xs, ys, r, e1, e2, e3, rfl⟩ := core true hv
          refine ⟨.bool !r, ?_, rfl⟩
          simp [execOp, hop, e1, e2, run_eqGuard_agg w .neq t x y xs ys hb.1, run_neq_struct, e3]
      · refine hgen (fun fs e => hst ⟨fs, e⟩) ?_
        cases d <;> first | exact hc | exact absurd ⟨_, rfl⟩ hst
  case unOp op t x =>
    cases op <;> simp only [reduceCtorEq] at hc
    obtain ⟨ar, h1, rfl⟩ := map_some' hc
    have g := compArg_sound h1 hs
    simp only [pureV] at hv
    generalize ar.val sl = x' at *
    cases x' <;> simp only [reduceCtorEq] at hv
    cases hv
    have g : a.eval x = .bool _ := g
    exact ⟨_, by simp only [execOp, hop, g, Op.unary]; rfl, rfl⟩
  case convert src dst x =>
    cases hd : P.underlying src with
    | none => rw [hd] at hc; cases hc
    | some d =>
      rw [hd] at hc
      cases hd' : P.underlying dst with
      | none => rw [hd'] at hc; cases d <;> cases hc
      | some d' =>
        rw [hd'] at hc
        cases d <;> first | (cases d' <;> cases hc; done) | skip
        cases d' <;> first | (cases hc; done) | skip
        obtain ⟨ar, h1, rfl⟩ := map_some' hc
        have g := compArg_sound h1 hs
        simp only [pureV] at hv
        generalize ar.val sl = x' at *
        cases x' <;> simp only [reduceCtorEq] at hv
        cases hv
        have g : a.eval x = .int _ _ := g
        exact ⟨_, by simp [execOp, hop, g, convert, run_underlying hd, run_underlying hd', Conv.intToInt], rfl⟩
  case makeFunc fn first captured =>
    cases fn <;> simp only [reduceCtorEq] at hc
    obtain ⟨h1, hc⟩ := bif_some hc
    obtain ⟨ars, h2, rfl⟩ := map_some' hc
    cases hv
    have hf : first = #[] := by simpa using h1
    subst hf
    refine ⟨.func (.func _) #[] (captured.map a.eval), by simp [execOp, hop, Instr.makeFunc], _, rfl, ?_⟩
    simpa using compArgs_sound h2 hs
  case slice t x lo hi mx =>
    cases hd : P.underlying t with
    | none => rw [hd] at hc; cases hc
    | some d =>
      rw [hd] at hc
      cases d <;> simp only [reduceCtorEq] at hc
      case string =>
        obtain ⟨ax, h1, hc⟩ := bind_some' hc
        obtain ⟨al, h2, hc⟩ := bind_some' hc
        obtain ⟨ah, h3, hc⟩ := bind_some' hc
        cases mx <;> simp only [reduceCtorEq] at hc
        cases hc
        have g1 := compArg_sound h1 hs
        have g2 := compOpt_OV h2 hs
        have g3 := compOpt_OV h3 hs
        simp only [pureV] at hv
        generalize ax.val sl = x' at *
        unfold substrV at hv
        cases x' <;> simp only [reduceCtorEq] at hv
        case str s =>
          obtain ⟨hh, e2, hv⟩ := bind_some' hv
          obtain ⟨l, e3, hv⟩ := bind_some' hv
          cases hv
          obtain ⟨X, eX, rfl⟩ := g1
          have hb := sliceBounds_sound (P := P) (isSlice := false) (len := X.size) (cap := X.size) g2 g3 (mx := none) (MX := none) trivial (m := X.size) (h := hh) (l := l) rfl (by rw [← data_size]; exact e2) e3 w
          refine ⟨.string (X.extract l hh), ?_, X.extract l hh, rfl, ?_⟩
          · simp [execOp, hop, eX, Instr.sliceAt, run_underlying hd, Instr.slice, hb]
          · simp [ByteArray.data_extract, Array.toList_extract, List.extract_eq_take_drop, List.drop_take]
      case slice e =>
        obtain ⟨k, h0, hc⟩ := bind_some' hc
        obtain ⟨ax, h1, hc⟩ := bind_some' hc
        obtain ⟨al, h2, hc⟩ := bind_some' hc
        obtain ⟨ah, h3, hc⟩ := bind_some' hc
        obtain ⟨am, h4, hc⟩ := bind_some' hc
        cases hc
        obtain ⟨d, i, _, hi, _, hsz, _, _⟩ := ekOf_spec h0
        simp only [pureV] at hv
        rw [← hsz] at hv
        refine Gives.of ?_ |> fun h => by simpa [execOp, hop] using h
        exact sliceV_sound hd hi (compArg_sound h1 hs) (compOpt_OV h2 hs) (compOpt_OV h3 hs) (compOpt_OV h4 hs) hv w
  case fieldAddr st x f =>
    cases hd : P.underlying st with
    | none => rw [hd] at hc; cases hc
    | some d =>
      rw [hd] at hc
      cases d <;> first | (cases hc; done) | skip
      rename_i fs
      obtain ⟨fl, h1, hc⟩ := bind_some' hc
      obtain ⟨i, h2, hc⟩ := bind_some' hc
      obtain ⟨h3, hc⟩ := bif_some hc
      obtain ⟨ax, h4, rfl⟩ := map_some' hc
      have h3 := Nat.le_of_ble_eq_true h3
      have g := compArg_sound h4 hs
      simp only [pureV] at hv
      generalize ax.val sl = x' at *
      cases x' <;> simp only [reduceCtorEq] at hv <;> cases hv
      · rename_i id off
        obtain ⟨b, o', hρ, e⟩ := g
        refine ⟨.pointer (some ⟨b, o' + off + fl.offset, none⟩), ?_, b, o', hρ, by rw [Nat.add_assoc]⟩
        simp only [execOp, hop, e, Sem.run_bind, run_fieldAt hd h1 h2 h3 b (o' + off) w, Result.andThen_ok]
        rfl
      · rename_i cs
        obtain ⟨b, o', vs, e, hI, hl, hr⟩ := g
        refine ⟨.pointer (some ⟨b, o' + fl.offset, none⟩), ?_, b, o' + fl.offset, vs.drop fl.offset, rfl, hI, ?_, RVs_drop hr _⟩
        · simp only [execOp, hop, e, Sem.run_bind, run_fieldAt hd h1 h2 h3 b o' w, Result.andThen_ok]
          rfl
        · obtain ⟨c, E, fz, l1, l2⟩ := hl
          refine ⟨c, E, fz, l1, fun j v hv => ?_⟩
          rw [List.getElem?_drop] at hv
          rw [Nat.add_assoc]
          exact l2 _ v hv
  case field st x f =>
    cases hd : P.underlying st with
    | none => rw [hd] at hc; cases hc
    | some d =>
      rw [hd] at hc
      cases d <;> first | (cases hc; done) | skip
      rename_i fs
      obtain ⟨fl, h1, hc⟩ := bind_some' hc
      obtain ⟨k, h2, hc⟩ := bind_some' hc
      obtain ⟨ax, h4, rfl⟩ := map_some' hc
      have g := compArg_sound h4 hs
      simp only [pureV] at hv
      generalize ax.val sl = x' at *
      cases x' <;> simp only [reduceCtorEq] at hv
      obtain ⟨arr, e, r1, r2⟩ := g
      obtain ⟨cv, c1, c2⟩ := run_part h2 r1 r2 hv w
      exact ⟨cv, by simp [execOp, hop, e, Instr.field, run_underlying hd, h1, asAgg, c1], c2⟩
  case indexAddr t x i =>
    cases hd : P.underlying t with
    | none => rw [hd] at hc; cases hc
    | some d =>
      rw [hd] at hc
      cases d <;> first | (cases hc; done) | skip
      obtain ⟨k, h0, hc⟩ := bind_some' hc
      obtain ⟨ax, h1, hc⟩ := bind_some' hc
      obtain ⟨ay, h2, hc⟩ := bind_some' hc
      cases hc
      obtain ⟨d, i', _, hi, _, hsz, _, _⟩ := ekOf_spec h0
      rw [← hsz] at hv
      refine Gives.of ?_ |> fun h => by simpa [execOp, hop] using h
      exact indexAddr_sound hd hi (compArg_sound h1 hs) (compArg_sound h2 hs) rfl rfl hv w
  case index t x i =>
    cases hd : P.underlying t with
    | none => rw [hd] at hc; cases hc
    | some d =>
      rw [hd] at hc
      cases d <;> first | (cases hc; done) | skip
      obtain ⟨ax, h1, hc⟩ := bind_some' hc
      obtain ⟨ay, h2, hc⟩ := bind_some' hc
      cases hc
      have g1 := compArg_sound h1 hs
      have g2 := compArg_sound h2 hs
      simp only [pureV] at hv
      generalize ax.val sl = x' at *
      generalize ay.val sl = y' at *
      cases x' <;> first | (simp only [reduceCtorEq] at hv; done) | skip
      cases y' <;> first | (simp only [reduceCtorEq] at hv; done) | skip
      rename_i s k n
      simp only at hv
      split at hv
      · rename_i h0
        obtain ⟨u, hu, rfl⟩ := map_some' hv
        obtain ⟨X, e1, rfl⟩ := g1
        have e2 : a.eval i = .int k n := g2
        have hget : X[n.toNat]? = some u := by
          rw [Array.getElem?_toList] at hu
          have hlt : n.toNat < X.size := by
            rcases Nat.lt_or_ge n.toNat X.size with g | g
            · exact g
            · have : X.data[n.toNat]? = none := Array.getElem?_eq_none g
              rw [this] at hu; cases hu
          rw [getElem?_pos X n.toNat hlt]
          rw [Array.getElem?_eq_getElem (xs := X.data) hlt] at hu
          exact hu
        refine ⟨.int .u8 u.toNat, ?_, rfl⟩
        simp [execOp, hop, e1, e2, Instr.index, asIntOf, run_underlying hd, h0, hget]
      · cases hv
  case extract x i =>
    obtain ⟨ar, h1, rfl⟩ := map_some' hc
    have g := compArg_sound h1 hs
    simp only [pureV] at hv
    generalize ar.val sl = x' at *
    cases x' <;> simp only [reduceCtorEq] at hv
    obtain ⟨arr, e, r1⟩ := g
    obtain ⟨V, hV, hr⟩ := RVs_get _ _ r1 _ _ hv
    have hV' : arr[i]? = some V := by rw [← Array.getElem?_toList]; exact hV
    exact ⟨V, by simp [execOp, hop, e, Instr.extract, hV'], hr⟩
  case call c =>
    cases hcal : c.callee with
    | invoke r n => rw [hcal] at hc; cases hc
    | value f =>
      rw [hcal] at hc
      exfalso
      cases f with
      | func g =>
        simp only at hc
        cases hf : P.funcs[g]? with
        | none => rw [hf] at hc; cases hc
        | some fn =>
          rw [hf] at hc
          obtain ⟨h1, hc⟩ := bif_some hc
          obtain ⟨as, _, rfl⟩ := map_some' hc
          simp only [AOp.cls] at hcls
          rw [hcls] at h1
          simp [notS] at h1
      | tmp t =>
        obtain ⟨h1, hc⟩ := bif_some hc
        obtain ⟨_, _, hc⟩ := bind_some' hc
        obtain ⟨as, _, rfl⟩ := map_some' hc
        simp only [AOp.cls] at hcls
        rw [hcls] at h1
        cases h1
      | const v =>
        obtain ⟨h1, hc⟩ := bif_some hc
        obtain ⟨_, _, hc⟩ := bind_some' hc
        obtain ⟨as, _, rfl⟩ := map_some' hc
        simp only [AOp.cls] at hcls
        rw [hcls] at h1
        cases h1
      | global g =>
        obtain ⟨h1, hc⟩ := bif_some hc
        obtain ⟨_, _, hc⟩ := bind_some' hc
        obtain ⟨as, _, rfl⟩ := map_some' hc
        simp only [AOp.cls] at hcls
        rw [hcls] at h1
        cases h1
    | builtin bi =>
      rw [hcal] at hc
      simp only at hc
      rcases compBuiltin_S hc hcls with ⟨rfl, ars, h1, rfl⟩ | ⟨rfl, ars, h1, rfl⟩
      · have g := compArgs_sound h1 hs
        simp only [pureV] at hv
        split at hv
        · rename_i k x r hx
          obtain ⟨m, hm, rfl⟩ := map_some' hv
          rw [hx] at g
          obtain ⟨X, Xs, e, g1, g2⟩ := g
          obtain rfl : X = .int k x := g1
          refine ⟨.int k m, ?_, rfl⟩
          simp [execOp, hop, resolve, hcal, invoke, builtin, Builtin.max_, e, minmax_max hm g2 w]
        · cases hv
      · have g := compArgs_sound h1 hs
        simp only [pureV] at hv
        split at hv
        · rename_i k x r hx
          obtain ⟨m, hm, rfl⟩ := map_some' hv
          rw [hx] at g
          obtain ⟨X, Xs, e, g1, g2⟩ := g
          obtain rfl : X = .int k x := g1
          refine ⟨.int k m, ?_, rfl⟩
          simp [execOp, hop, resolve, hcal, invoke, builtin, Builtin.min_, e, minmax_min hm g2 w]
        · cases hv
end
end Go.Ai
