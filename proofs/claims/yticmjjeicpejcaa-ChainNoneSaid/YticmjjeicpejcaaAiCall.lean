/-
  Results; what a call has made becomes immutable, or the caller's own.
-/
import Derived.Test.YticmjjeicpejcaaAiExec
set_option linter.unusedVariables false
set_option linter.unusedSimpArgs false
namespace Go.Ai
section
variable {ρ : Rho} {I : Nat → Prop} {P : Program} {h h' : AH} {w : World} {sl : List AV} {a : Act} {hp : Hp}

theorem cellsOf_ptr {e : EK} {t : TypeId} (he : ekOf P t = some e) (ok : Ok ρ I h w.heap) {x : AV} {X : Value} (hx : RV ρ I w.heap x X) {v : AV}
    (hv : readVar h e x = some v) : ∃ cv, (do loadVar t (← asAddr X) : Sem Value).run P w = .ok cv w ∧ RV ρ I w.heap v cv := by
  cases x <;> simp only [readVar, reduceCtorEq] at hv
  case iptr cs =>
    obtain ⟨b, o, vs, rfl, hI, hl, hr⟩ := hx
    obtain ⟨cv, c1, c2⟩ := run_loadVar he hv (RVs_take hr _) (lies_take hl _)
    exact ⟨cv, by simpa [asAddr] using c1, c2⟩
  case ptr id off =>
    obtain ⟨cs, hcs, hv⟩ := bind_some' hv
    obtain ⟨b, o, hρ, rfl⟩ := hx
    obtain ⟨arr, E, vs, h1, h2, h3, _⟩ := cells_lie ok hρ hcs
    obtain ⟨cv, c1, c2⟩ := run_loadVar he hv (RVs_take (RVs_drop h2 off) _) (lies_drop h1 h3 off _)
    exact ⟨cv, by simpa [asAddr] using c1, c2⟩

theorem goRes_sound {st : AS} (ok : Ok ρ I st.h w.heap) (hs : Slots ρ I w.heap st.sl a) {f : ResultVar → Sem Value} (hf1 : ∀ t, f (.tmp t) = pure (a.tmps.getD t undef)) (hf2 : ∀ x t, f (.cell x t) = (do loadVar t (← asAddr (a.tmps.getD x undef)))) : ∀ (rs : List ResultVar) (ars : List ARes) (vs : List AV), compRes P rs = some ars → results.goRes st ars = some vs →
    ∃ cvs, (rs.mapM f).run P w = .ok cvs w ∧ RVs ρ I w.heap vs cvs
  | [], ars, vs, hc, hv => by
    cases hc
    cases hv
    exact ⟨[], rfl, rfl⟩
  | .tmp t :: rs, ars, vs, hc, hv => by
    simp only [compRes] at hc
    obtain ⟨ars', h1, rfl⟩ := map_some' hc
    simp only [results.goRes] at hv
    obtain ⟨v, h2, hv⟩ := bind_some' hv
    obtain ⟨vs', h3, hv⟩ := bind_some' hv
    cases hv
    cases h2
    obtain ⟨cvs, c1, c2⟩ := goRes_sound ok hs hf1 hf2 rs ars' vs' h1 h3
    exact ⟨a.tmps.getD t undef :: cvs, by simp only [List.mapM_cons, hf1, Sem.run_bind, Sem.run_pure, Result.andThen_ok, c1], _, _, rfl, hs.2 t, c2⟩
  | .cell x t :: rs, ars, vs, hc, hv => by
    simp only [compRes] at hc
    obtain ⟨k, hk, hc⟩ := bind_some' hc
    obtain ⟨ars', h1, rfl⟩ := map_some' hc
    simp only [results.goRes] at hv
    obtain ⟨v, h2, hv⟩ := bind_some' hv
    obtain ⟨vs', h3, hv⟩ := bind_some' hv
    cases hv
    obtain ⟨cv, g1, g2⟩ := cellsOf_ptr (P := P) hk ok (hs.2 x) h2
    obtain ⟨cvs, c1, c2⟩ := goRes_sound ok hs hf1 hf2 rs ars' vs' h1 h3
    simp only [Sem.run_bind] at g1
    refine ⟨cv :: cvs, ?_, _, _, rfl, g2, c2⟩
    simp only [List.mapM_cons, hf2, Sem.run_bind, g1, Result.andThen_ok, c1, Sem.run_pure]

theorem results_sound {fn : Func} {st : AS} {ars : List ARes} (hc : compRes P fn.results.toList = some ars) (ok : Ok ρ I st.h w.heap) (hs : Slots ρ I w.heap st.sl a) {v : AV} (hv : results st ars = some v) :
    ∃ cv, (Go.results fn a.tmps).run P w = .ok cv w ∧ RV ρ I w.heap v cv := by
  have hrun : ∀ {vs : List AV}, results.goRes st ars = some vs → ∃ cvs, (Go.results fn a.tmps).run P w = .ok (if h : cvs.size = 1 then cvs[0] else .tuple cvs) w ∧ RVs ρ I w.heap vs cvs.toList := by
    intro vs hvs
    have hres : ∃ f : ResultVar → Sem Value, (∀ t, f (.tmp t) = pure (a.tmps.getD t undef)) ∧ (∀ x t, f (.cell x t) = (do loadVar t (← asAddr (a.tmps.getD x undef)))) ∧
        (Go.results fn a.tmps).run P w = ((fn.results.toList.mapM f).run P w).andThen fun cvs w' => .ok (if h : cvs.toArray.size = 1 then cvs.toArray[0] else .tuple cvs.toArray) w' := by
      refine ⟨fun | .tmp t => pure (a.tmps.getD t undef) | .cell x t => do loadVar t (← asAddr (a.tmps.getD x undef)), fun _ => rfl, fun _ _ => rfl, ?_⟩
      have h1 : Go.results fn a.tmps = (do
          let vs ← fn.results.mapM (fun | .tmp t => pure (a.tmps.getD t undef) | .cell x t => do loadVar t (← asAddr (a.tmps.getD x undef)))
          pure (if h : vs.size = 1 then vs[0] else .tuple vs)) := rfl
      rw [h1, Array.mapM_eq_mapM_toList]
      simp only [Sem.run_bind, Sem.run_map]
      generalize Sem.run P (List.mapM _ fn.results.toList) w = r
      cases r <;> rfl
    obtain ⟨f, f1, f2, f3⟩ := hres
    obtain ⟨cvs, c1, c2⟩ := goRes_sound (P := P) ok hs f1 f2 _ _ _ hc hvs
    refine ⟨cvs.toArray, ?_, by simpa using c2⟩
    rw [f3, c1]
    rfl
  unfold results at hv
  split at hv
  · cases hv
    obtain ⟨cvs, c1, c2⟩ := hrun (vs := []) rfl
    simp only [RVs] at c2
    have : cvs = #[] := by simpa using c2
    subst this
    exact ⟨_, c1, #[], rfl, rfl⟩
  · rename_i r
    obtain ⟨cvs, c1, c2⟩ := hrun (vs := [v]) (by simp [results.goRes, hv])
    obtain ⟨x, xs, e, h1, h2⟩ := c2
    simp only [RVs] at h2
    subst h2
    have : cvs = #[x] := by
      apply Array.toList_inj.1
      simpa using e
    subst this
    exact ⟨x, by simpa using c1, h1⟩
  · rename_i h0 h1
    obtain ⟨vs, h2, rfl⟩ := map_some' hv
    obtain ⟨cvs, c1, c2⟩ := hrun h2
    have hlen : ∀ (ars : List ARes) (vs : List AV), results.goRes st ars = some vs → vs.length = ars.length := by
      intro ars
      induction ars with
      | nil => intro vs h; cases h; rfl
      | cons r ars ih =>
        intro vs h
        simp only [results.goRes] at h
        obtain ⟨_, _, h⟩ := bind_some' h
        obtain ⟨vs', h', h⟩ := bind_some' h
        cases h
        simp [ih vs' h']
    have hne : cvs.size ≠ 1 := by
      intro e
      have := RVs_length _ _ c2
      rw [Array.length_toList, e, hlen _ _ h2] at this
      cases ars with
      | nil => cases this
      | cons r rs => cases rs with
        | nil => exact h1 r rfl
        | cons _ _ => simp at this
    refine ⟨.tuple cvs, by simpa [hne] using c1, cvs, rfl, c2⟩

/-! ### Values without numbers -/
mutual
theorem RV_refFree {ρ' : Rho} : ∀ (v : AV) (cv : Value), v.refFree = true → RV ρ I hp v cv → RV ρ' I hp v cv
  | .undef, _, _, _ => trivial
  | .bool _, _, _, h => h
  | .int _ _, _, _, h => h
  | .str _, _, _, h => h
  | .nilptr, _, _, h => h
  | .ptr _ _, _, hr, _ => by simp [AV.refFree] at hr
  | .iptr cs, _, hr, h => by
    simp only [AV.refFree] at hr
    obtain ⟨b, o, vs, h1, h2, h3, h4⟩ := h
    exact ⟨b, o, vs, h1, h2, h3, RVs_refFree cs vs hr h4⟩
  | .empt _, _, _, h => h
  | .list es, _, hr, h => by
    simp only [AV.refFree] at hr
    obtain ⟨A, cap, h1, h2, h3⟩ := h
    refine ⟨A, cap, h1, h2, ?_⟩
    rcases h3 with h3 | ⟨b, o, vs, n, e1, e2, e3, e4, e5⟩
    · exact .inl h3
    · exact .inr ⟨b, o, vs, n, e1, e2, e3, RVs_refFree es vs hr e4, e5⟩
  | .sref _ _ _ _ _, _, hr, _ => by simp [AV.refFree] at hr
  | .nilmap, _, _, h => h
  | .mref _, _, hr, _ => by simp [AV.refFree] at hr
  | .imap ks vs, _, hr, h => by
    simp only [AV.refFree, Bool.and_eq_true] at hr
    obtain ⟨r, ents, clock, h1, h2, h3, h4, h5⟩ := h
    exact ⟨r, ents, clock, h1, h2, h3, RVs_refFree ks _ hr.1 h4, RVs_refFree vs _ hr.2 h5⟩
  | .nilfunc, _, _, h => h
  | .func f caps, _, hr, h => by
    simp only [AV.refFree] at hr
    obtain ⟨cap, h1, h2⟩ := h
    exact ⟨cap, h1, RVs_refFree caps _ hr h2⟩
  | .agg cs, _, hr, h => by
    simp only [AV.refFree] at hr
    obtain ⟨arr, h1, h2, h3⟩ := h
    exact ⟨arr, h1, RVs_refFree cs _ hr h2, h3⟩
  | .tup cs, _, hr, h => by
    simp only [AV.refFree] at hr
    obtain ⟨arr, h1, h2⟩ := h
    exact ⟨arr, h1, RVs_refFree cs _ hr h2⟩
theorem RVs_refFree {ρ' : Rho} : ∀ (vs : List AV) (cvs : List Value), refFrees vs = true → RVs ρ I hp vs cvs → RVs ρ' I hp vs cvs
  | [], _, _, h => h
  | v :: vs, _, hr, h => by
    simp only [refFrees, Bool.and_eq_true] at hr
    obtain ⟨c, cs, h1, h2, h3⟩ := h
    exact ⟨c, cs, h1, RV_refFree v c hr.1 h2, RVs_refFree vs cs hr.2 h3⟩
end

theorem ShapeLe.refl' : ShapeLe hp hp := .refl hp

/-- What must be known for objects to be read as immutable. -/
structure Thaw (ρ ρ' : Rho) (I I' : Nat → Prop) (H : AHeap) (lo : Nat) (hp : Hp) : Prop where
  imm : ∀ b, I b → I' b
  old : ∀ id, id < lo → ρ' id = ρ id
  new : ∀ id b o ob, lo ≤ id → ρ id = some (b, o) → H id = some ob → I' b ∧ ObjOk ρ I hp b o ob

theorem RVs_chunk {ρ : Rho} {I : Nat → Prop} {e : EK} : ∀ (n : Nat) (cs es : List AV) (vs : List Value), chunk e n cs = some es → RVs ρ I hp cs vs → allCells vs → vs.length = n * e.size → (e.agg = false → e.size = 1) →
    ∃ us, RVs ρ I hp es us ∧ vflat us = vs ∧ (∀ u ∈ us, u.cells.size = e.size) ∧ us.length = n
  | 0, cs, es, vs, h, hr, hc, hl, he => by
    cases h
    simp only [Nat.zero_mul] at hl
    have : vs = [] := List.eq_nil_of_length_eq_zero hl
    subst this
    exact ⟨[], rfl, rfl, by simp, rfl⟩
  | n + 1, cs, es, vs, h, hr, hc, hl, he => by
    simp only [chunk] at h
    obtain ⟨x, h1, h⟩ := bind_some' h
    obtain ⟨r, h2, h⟩ := bind_some' h
    cases h
    rw [Nat.succ_mul] at hl
    have hp1 := pack_sound h1 (RVs_take hr e.size) (fun v hv => hc v (List.mem_of_mem_take hv))
    obtain ⟨us, u1, u2, u3, u4⟩ := RVs_chunk n (cs.drop e.size) r (vs.drop e.size) h2 (RVs_drop hr _) (fun v hv => hc v (List.mem_of_mem_drop hv)) (by simp; omega) he
    cases ha : e.agg with
    | true =>
      rw [ha] at hp1
      simp only [if_true] at hp1
      refine ⟨.agg (vs.take e.size).toArray :: us, ⟨_, _, rfl, hp1.2, u1⟩, ?_, ?_, by simp [u4]⟩
      · simp [vflat, Value.cells, u2]
      · intro u hu
        rcases List.mem_cons.1 hu with rfl | hu
        · simpa [Value.cells] using hp1.1
        · exact u3 u hu
    | false =>
      rw [ha] at hp1
      simp only [Bool.false_eq_true, if_false] at hp1
      obtain ⟨X, hX, hxr⟩ := hp1
      have h1e := he ha
      have hcell : X.oneCell' = true := hc X (List.mem_of_mem_take (by rw [hX]; simp))
      have hXc : X.cells = #[X] := by cases X <;> first | rfl | (simp [Value.oneCell'] at hcell)
      refine ⟨X :: us, ⟨_, _, rfl, hxr, u1⟩, ?_, ?_, by simp [u4]⟩
      · simp only [vflat, hXc]
        rw [u2]
        have := List.take_append_drop e.size vs
        rw [hX] at this
        simpa using this
      · intro u hu
        rcases List.mem_cons.1 hu with rfl | hu
        · rw [hXc, h1e]; rfl
        · exact u3 u hu

theorem traverse_sound {f : AV → Option AV} {ρ ρ' : Rho} {I I' : Nat → Prop} (hf : ∀ v v' cv, f v = some v' → RV ρ I hp v cv → RV ρ' I' hp v' cv) :
    ∀ (vs vs' : List AV) (cvs : List Value), traverse f vs = some vs' → RVs ρ I hp vs cvs → RVs ρ' I' hp vs' cvs
  | [], vs', cvs, h, hr => by cases h; exact hr
  | v :: vs, vs', cvs, h, hr => by
    simp only [traverse] at h
    obtain ⟨x, h1, h⟩ := bind_some' h
    obtain ⟨r, h2, h⟩ := bind_some' h
    cases h
    obtain ⟨c, cs, e, g1, g2⟩ := hr
    exact ⟨c, cs, e, hf v x c h1 g1, traverse_sound hf vs r cs h2 g2⟩

theorem deep_sound {ρ ρ' : Rho} {I I' : Nat → Prop} {H : AHeap} {lo : Nat} (ht : Thaw ρ ρ' I I' H lo hp) : ∀ (n : Nat) (v v' : AV) (cv : Value), deep H lo n v = some v' → RV ρ I hp v cv → RV ρ' I' hp v' cv
  | 0, v, v', cv, h, _ => by cases h
  | n + 1, v, v', cv, h, hr => by
    simp only [deep] at h
    rcases bif_cases h with ⟨hrf, h⟩ | ⟨_, h⟩
    · cases h
      have := RV_refFree (ρ' := ρ') v cv hrf hr
      exact RV_mono (fun _ _ h => h) ht.imm (fun _ _ => rfl) .refl' v cv this
    · have ih := fun v v' cv => deep_sound ht n v v' cv
      have objcells : ∀ {id b o : Nat} {cs : List AV}, lo ≤ id → ρ id = some (b, o) → H id = some (.cells cs) →
          I' b ∧ ∃ arr E us, hp[b]? = some (Obj.cells arr E (0, 0)) ∧ RVs ρ I hp cs us ∧ ∀ j v, us[j]? = some v → arr[o + j]? = some v ∧ v.oneCell' = true := fun h1 h2 h3 => ht.new _ _ _ _ h1 h2 h3
      cases v with
      | sref id off len cap e =>
        simp only at h
        rcases bif_cases h with ⟨hlo, h⟩ | ⟨hlo, h⟩
        · split at h
          · rename_i cs hob
            obtain ⟨hlen, h⟩ := bif_some h
            obtain ⟨cs', h1, h⟩ := bind_some' h
            obtain ⟨es, h2, h⟩ := bind_some' h
            cases h
            simp only [Bool.and_eq_true, Bool.or_eq_true] at hlen
            obtain ⟨b, o, c, hρ, rfl, hlc, hcc, _⟩ := hr
            obtain ⟨hI, arr, E, us, g1, g2, g3⟩ := objcells (Nat.le_of_ble_eq_true hlo) hρ hob
            have hr1 := RVs_take (RVs_drop g2 off) (len * e.size)
            have hl1 := lies_drop g1 g3 off (len * e.size)
            have hr2 := traverse_sound ih _ _ _ h1 hr1
            have hlenv : ((us.drop off).take (len * e.size)).length = len * e.size := by rw [RVs_length _ _ hr1]; exact Nat.eq_of_beq_eq_true hlen.1
            have hcell : allCells ((us.drop off).take (len * e.size)) := by
              intro v hv
              obtain ⟨j, hj⟩ := List.mem_iff_getElem?.1 (List.mem_of_mem_drop (List.mem_of_mem_take hv))
              exact (g3 j v hj).2
            obtain ⟨vs, v1, v2, v3, v4⟩ := RVs_chunk len cs' es _ h2 hr2 hcell hlenv (fun ha => by
              rcases hlen.2 with g | g
              · rw [ha] at g; cases g
              · exact Nat.eq_of_beq_eq_true g)
            have hel : es.length = len := by rw [← RVs_length _ _ v1]; exact v4
            refine ⟨_, c, by rw [hel], by omega, ?_⟩
            exact .inr ⟨b, o + off, vs, e.size, rfl, hI, by rw [v2]; exact hl1, v1, v3⟩
          · cases h
        · cases h
          obtain ⟨b, o, c, hρ, h1⟩ := hr
          have hlt : id < lo := by
            rcases Nat.lt_or_ge id lo with g | g
            · exact g
            · rw [Nat.ble_eq_true_of_le g] at hlo; cases hlo
          exact ⟨b, o, c, by rw [ht.old id hlt]; exact hρ, h1⟩
      | ptr id off =>
        simp only at h
        rcases bif_cases h with ⟨hlo, h⟩ | ⟨hlo, h⟩
        · split at h
          · rename_i cs hob
            obtain ⟨cs', h1, h⟩ := bind_some' h
            cases h
            obtain ⟨b, o, hρ, rfl⟩ := hr
            obtain ⟨hI, arr, E, us, g1, g2, g3⟩ := objcells (Nat.le_of_ble_eq_true hlo) hρ hob
            refine ⟨b, o + off, us.drop off, rfl, hI, ?_, traverse_sound ih _ _ _ h1 (RVs_drop g2 off)⟩
            have := lies_drop g1 g3 off us.length
            rwa [List.take_of_length_le (by simp)] at this
          · cases h
        · cases h
          obtain ⟨b, o, hρ, h1⟩ := hr
          have hlt : id < lo := by
            rcases Nat.lt_or_ge id lo with g | g
            · exact g
            · rw [Nat.ble_eq_true_of_le g] at hlo; cases hlo
          exact ⟨b, o, by rw [ht.old id hlt]; exact hρ, h1⟩
      | mref id =>
        simp only at h
        rcases bif_cases h with ⟨hlo, h⟩ | ⟨hlo, h⟩
        · split at h
          · rename_i ks vs hob
            obtain ⟨ks', h1, h⟩ := bind_some' h
            obtain ⟨vs', h2, h⟩ := bind_some' h
            cases h
            obtain ⟨b, hρ, rfl⟩ := hr
            obtain ⟨hI, _, ents, clock, g1, _, g2, g3⟩ := ht.new _ _ _ _ (Nat.le_of_ble_eq_true hlo) hρ hob
            exact ⟨b, ents, clock, rfl, hI, g1, traverse_sound ih _ _ _ h1 g2, traverse_sound ih _ _ _ h2 g3⟩
          · cases h
        · cases h
          obtain ⟨b, hρ, h1⟩ := hr
          have hlt : id < lo := by
            rcases Nat.lt_or_ge id lo with g | g
            · exact g
            · rw [Nat.ble_eq_true_of_le g] at hlo; cases hlo
          exact ⟨b, by rw [ht.old id hlt]; exact hρ, h1⟩
      | iptr cs =>
        obtain ⟨cs', h1, h⟩ := bind_some' h
        cases h
        obtain ⟨b, o, vs, e, hI, hl, hv⟩ := hr
        exact ⟨b, o, vs, e, ht.imm _ hI, hl, traverse_sound ih _ _ _ h1 hv⟩
      | list es =>
        obtain ⟨cs', h1, h⟩ := bind_some' h
        cases h
        obtain ⟨A, cap, e, hc, hes⟩ := hr
        rcases hes with rfl | ⟨b, o, vs, m, e1, e2, e3, e4, e5⟩
        · cases h1
          exact ⟨A, cap, e, hc, .inl rfl⟩
        · have g := traverse_sound ih _ _ _ h1 e4
          have hl : cs'.length = es.length := by rw [← RVs_length _ _ g, RVs_length _ _ e4]
          exact ⟨A, cap, by rw [hl]; exact e, by rw [hl]; exact hc, .inr ⟨b, o, vs, m, e1, ht.imm _ e2, e3, g, e5⟩⟩
      | func f cs =>
        obtain ⟨cs', h1, h⟩ := bind_some' h
        cases h
        obtain ⟨cap, e, hv⟩ := hr
        exact ⟨cap, e, traverse_sound ih _ _ _ h1 hv⟩
      | agg cs =>
        obtain ⟨cs', h1, h⟩ := bind_some' h
        cases h
        obtain ⟨arr, e, hv, hc⟩ := hr
        exact ⟨arr, e, traverse_sound ih _ _ _ h1 hv, hc⟩
      | tup cs =>
        obtain ⟨cs', h1, h⟩ := bind_some' h
        cases h
        obtain ⟨arr, e, hv⟩ := hr
        exact ⟨arr, e, traverse_sound ih _ _ _ h1 hv⟩
      | _ => cases h
end
end Go.Ai
