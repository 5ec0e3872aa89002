/-
  Maps asked, written and shortened; slices appended to, copied into and cleared.
-/
import Derived.Test.YticmjjeicpejcaaAiMem3
set_option linter.unusedVariables false
set_option linter.unusedSimpArgs false
namespace Go.Ai
section
variable {ρ : Rho} {I : Nat → Prop} {P : Program} {h h' : AH} {w : World}

theorem run_getMap {r : Nat} {ents : Array MapEntry} {clock : Nat} (hr : w.heap[r]? = some (Obj.map ents clock)) : (getObj r).run P w = .ok (.map ents clock) w := by
  simp [getObj, Sem.run, hr]
theorem run_setMap {r : Nat} {ents : Array MapEntry} {clock : Nat} (hr : w.heap[r]? = some (Obj.map ents clock)) (o : Obj) : (setObj r o).run P w = .ok () (setBlock w r o) := by
  simp [setObj, Sem.run, hr, setBlock]

theorem scalarEq_true {x y : AV} (h : scalarEq x y = some true) : x = y := by
  cases x <;> simp only [scalarEq, reduceCtorEq] at h <;> cases y <;> simp only [reduceCtorEq] at h
  · simp only [Option.some.injEq, beq_iff_eq] at h; rw [h]
  · split at h
    · simp only [Option.some.injEq, beq_iff_eq] at h; subst_vars; rfl
    · cases h
  · simp only [Option.some.injEq, beq_iff_eq] at h; rw [h]

theorem findKeyA_spec {x : AV} : ∀ {ks : List AV} {i j : Nat}, findKeyA x ks i = some (some j) → i ≤ j ∧ ks[j - i]? = some x
  | [], i, j, h => by cases h
  | k :: ks, i, j, h => by
    simp only [findKeyA, keyEq] at h
    cases hs : scalarEq x k with
    | none => rw [hs] at h; cases h
    | some t =>
      rw [hs] at h
      cases t with
      | true =>
        cases h
        rw [scalarEq_true hs]
        simp
      | false =>
        obtain ⟨g1, g2⟩ := findKeyA_spec h
        refine ⟨by omega, ?_⟩
        rw [show j - i = (j - (i + 1)) + 1 by omega, List.getElem?_cons_succ]
        exact g2

theorem sameBits_of {x : AV} {X Y : Value} {kk : SK} (hk : keyIs kk x = true) (hx : RV ρ I w.heap x X) (hy : RV ρ I w.heap x Y) (n : Nat) : Instr.sameBits n X Y = true := by
  cases x <;> first
    | (cases kk <;> simp [keyIs] at hk; done)
    | skip
  case bool b =>
    obtain rfl : X = .bool b := hx
    obtain rfl : Y = .bool b := hy
    cases n <;> simp [Instr.sameBits]
  case int k a =>
    obtain rfl : X = .int k a := hx
    obtain rfl : Y = .int k a := hy
    cases n <;> simp [Instr.sameBits]
  case str s =>
    obtain ⟨X, rfl, hX⟩ := hx
    obtain ⟨Y, rfl, hY⟩ := hy
    have : X = Y := by
      cases X; cases Y
      simp only at hX hY
      rw [ByteArray.mk.injEq]
      exact Array.toList_inj.1 (hX.trans hY.symm)
    subst this
    cases n <;> simp [Instr.sameBits, beq_toListBytes]

theorem run_lookup {t kt et : TypeId} {kk : SK} {i : TypeInfo} {z : Value} (ht : P.underlying t = some (.map kt et)) (hk : keyKind P kt = some kk) (hi : P.info? et = some i) (hz : i.zero = some z)
    {x : AV} {X : Value} (hx : RV ρ I w.heap x X) (hkx : keyIs kk x = true) {ks : List AV} {ents : Array MapEntry} {r : Option Nat} (hr : RVs ρ I w.heap ks (ents.toList.map (·.key))) (hf : findKeyA x ks 0 = some r)
    {M : Value} (hM : (M = .map none ∧ ents = #[]) ∨ ∃ b clock, M = .map (some b) ∧ w.heap[b]? = some (Obj.map ents clock)) (ok : Bool) :
    (Instr.lookup t M X ok).run P w = .ok (match r.bind fun j => ents[j]? with
      | some e => (if ok then .tuple #[e.val, .bool true] else e.val)
      | none => (if ok then .tuple #[z, .bool false] else z)) w ∧ (∀ j, r = some j → ∃ e, ents[j]? = some e) := by
  obtain ⟨d, hd, hdk⟩ := keyType_spec hk
  obtain ⟨g1, g2⟩ := run_findKey (P := P) (w := w) hd hdk hx (keyFits_of hk hd hkx) hr hf
  have g3 : ∀ j, r = some j → ∃ e, ents[j]? = some e := by
    intro j hj
    have := g2 j hj
    exact ⟨_, Array.getElem?_eq_getElem (by simpa using this)⟩
  refine ⟨?_, g3⟩
  have hck := run_checkKey (P := P) (w := w) hk ents.isEmpty X 9999
  have es : (match M with
      | .map none => (pure #[] : Sem (Array MapEntry))
      | .map (some r) => do
        let .map es _ ← getObj r | stuck "Lookup: map expected"
        pure es
      | _ => stuck "Lookup: map expected").run P w = .ok ents w := by
    rcases hM with ⟨rfl, rfl⟩ | ⟨b, clock, rfl, hb⟩
    · rfl
    · simp [run_getMap hb]
  have hzv := run_zeroValue' hi hz w
  unfold Instr.lookup
  simp only [Sem.run_bind, run_underlying ht, Result.andThen_ok]
  rcases hM with ⟨rfl, rfl⟩ | ⟨b, clock, rfl, hb⟩
  · simp only [Sem.run_bind, Sem.run_pure, Result.andThen_ok]
    rw [hck]
    simp only [Result.andThen_ok, g1]
    cases r with
    | none => simp [hzv]
    | some j => obtain ⟨e, he⟩ := g3 j rfl; simp at he
  · simp only [Sem.run_bind, run_getMap hb, Result.andThen_ok, Sem.run_pure]
    rw [hck]
    simp only [Result.andThen_ok, g1]
    cases r with
    | none => simp [hzv]
    | some j =>
      obtain ⟨e, he⟩ := g3 j rfl
      simp [he]

theorem setMap_shape {b : Nat} {ents : Array MapEntry} {clock : Nat} (hb : w.heap[b]? = some (Obj.map ents clock)) (o : Obj) : ShapeLe w.heap (setBlock w b o).heap := by
  intro j x F gz hj
  by_cases hjb : j = b
  · subst hjb
    rw [hb] at hj
    cases hj
  · exact ⟨x, gz, by rw [setBlock_ne _ hjb]; exact hj, rfl⟩

/-- A map's object is changed. -/
theorem map_ext (ok : Ok ρ I h w.heap) {id b : Nat} {ks vs ks' vs' : List AV} {ents ents' : Array MapEntry} {clock clock' : Nat} (hρ : ρ id = some (b, 0)) (hob : h.heap id = some (.map ks vs))
    (hb : w.heap[b]? = some (Obj.map ents clock)) (hset : h.set id (some (.map ks' vs')) = some h') (hbn : Borns ents' clock') (hk : RVs ρ I w.heap ks' (ents'.toList.map (·.key))) (hv : RVs ρ I w.heap vs' (ents'.toList.map (·.val))) :
    Ext ρ I h w.heap ρ I h' (setBlock w b (.map ents' clock')).heap := by
  have hlt := block_lt hb
  have hIb : ¬ I b := ok.rel.apart id b 0 hρ (by rw [hob]; simp)
  have hsh := setMap_shape hb (.map ents' clock')
  have mono : ∀ {a v}, RVs ρ I w.heap a v → RVs ρ I (setBlock w b (.map ents' clock')).heap a v := fun {a v} hv =>
    RVs_mono (fun _ _ h => h) (fun _ h => h) (fun j hj => setBlock_ne (b := b) _ (fun e => hIb (by rw [← e]; exact hj))) hsh a v hv
  exact Ext.set ok.rel ok.fresh _ hset hρ (by rw [hob]; simp) (setBlock_size _) (fun j hj => setBlock_ne _ hj) hsh ⟨rfl, ents', clock', setBlock_get _ hlt, hbn, mono hk, mono hv⟩

theorem map_obj (ok : Ok ρ I h w.heap) {id b : Nat} {ks vs : List AV} (hρ : ρ id = some (b, 0)) (hob : h.heap id = some (.map ks vs)) :
    ∃ ents clock, w.heap[b]? = some (Obj.map ents clock) ∧ Borns ents clock ∧ RVs ρ I w.heap ks (ents.toList.map (·.key)) ∧ RVs ρ I w.heap vs (ents.toList.map (·.val)) := by
  obtain ⟨_, ents, clock, h1, hbn, h2, h3⟩ := ok.rel.obj id b 0 _ hρ hob
  exact ⟨ents, clock, h1, hbn, h2, h3⟩

theorem mapupd_does (ok : Ok ρ I h w.heap) {t kt et : TypeId} {kk : SK} (ht : P.underlying t = some (.map kt et)) (hk : keyKind P kt = some kk)
    {m x y : AV} {M X Y : Value} (hm : RV ρ I w.heap m M) (hx : RV ρ I w.heap x X) (hy : RV ρ I w.heap y Y) {sl : List AV} {am ax ay : Arg} (em : am.val sl = m) (ex : ax.val sl = x) (ey : ay.val sl = y) {v : AV}
    (hv : memV sl h (.mapupd kk am ax ay) = some (v, h')) : v = .undef ∧ ∃ w', (Instr.mapUpdate t M X Y).run P w = .ok () w' ∧ Ext ρ I h w.heap ρ I h' w'.heap ∧ Quiet w w' := by
  simp only [memV, em, ex, ey] at hv
  obtain ⟨hkx, hv⟩ := bif_some hv
  cases m <;> simp only [reduceCtorEq] at hv
  rename_i id
  obtain ⟨b, hρ, rfl⟩ := hm
  split at hv
  · rename_i ks vs hob
    obtain ⟨r, hf, hv⟩ := bind_some' hv
    obtain ⟨ents, clock, hb, hbn, hks, hvs⟩ := map_obj ok hρ hob
    obtain ⟨d, hd, hdk⟩ := keyType_spec hk
    obtain ⟨g1, g2⟩ := run_findKey (P := P) (w := w) hd hdk hx (keyFits_of hk hd hkx) hks hf
    have hck := run_checkKey (P := P) (w := w) hk false X 9999
    cases r with
    | none =>
      obtain ⟨h1, hset, hv⟩ := bind_some' hv
      cases hv
      refine ⟨rfl, _, ?_, map_ext (ents' := ents.push { key := X, val := Y, born := clock }) (clock' := clock + 1) ok hρ hob hb hset ?_ ?_ ?_, rfl, rfl, rfl⟩
      · unfold Instr.mapUpdate
        simp only [Sem.run_bind, run_underlying ht, Result.andThen_ok, run_getMap hb]
        rw [hck]
        simp only [Result.andThen_ok, g1, Option.bind_none, run_setMap hb]
      · exact hbn.push X Y
      · have h1 : RVs ρ I w.heap [x] [X] := ⟨X, [], rfl, hx, rfl⟩
        simpa using RVs_append hks h1
      · have h1 : RVs ρ I w.heap [y] [Y] := ⟨Y, [], rfl, hy, rfl⟩
        simpa using RVs_append hvs h1
    | some j =>
      obtain ⟨h1, hset, hv⟩ := bind_some' hv
      cases hv
      obtain ⟨_, hkj⟩ := findKeyA_spec hf
      rw [Nat.sub_zero] at hkj
      have hj := g2 j rfl
      have hj' : j < ents.size := by simpa using hj
      have hej : ents[j]? = some ents[j] := Array.getElem?_eq_getElem hj'
      obtain ⟨K, hK, hKr⟩ := RVs_get _ _ hks j _ hkj
      have hKe : K = ents[j].key := by
        rw [List.getElem?_map, Array.getElem?_toList, hej] at hK
        exact (Option.some.inj hK).symm
      subst hKe
      have hsame := sameBits_of hkx hKr hx 10000
      refine ⟨rfl, _, ?_, map_ext (ents' := ents.modify j fun e => { e with key := X, val := Y }) (clock' := clock) ok hρ hob hb hset ?_ ?_ ?_, rfl, rfl, rfl⟩
      · unfold Instr.mapUpdate
        simp only [Sem.run_bind, run_underlying ht, Result.andThen_ok, run_getMap hb]
        rw [hck]
        simp only [Result.andThen_ok, g1, Option.bind_some, Array.getElem?_toList, hej, Option.map_some, Option.getD_some, Instr.keyThatStays, hsame, if_true, Sem.run_pure, run_setMap hb, Sem.run_bind]
      · exact hbn.modify j X Y
      · have : (ents.modify j fun e => { e with key := X, val := Y }).toList.map (·.key) = (ents.toList.map (·.key)).set j X := by
          apply List.ext_getElem?
          intro n
          rw [List.getElem?_map, Array.getElem?_toList, Array.getElem?_modify, List.getElem?_set, List.getElem?_map, Array.getElem?_toList]
          by_cases hn : j = n
          · subst hn; simp [hej, hj']
          · simp [hn]
        rw [this]
        have hs := RVs_set hks hx j
        have : ks.set j x = ks := by
          apply List.ext_getElem?
          intro n
          rw [List.getElem?_set]
          by_cases hn : j = n
          · subst hn
            have : j < ks.length := by
              rcases Nat.lt_or_ge j ks.length with g | g
              · exact g
              · rw [List.getElem?_eq_none g] at hkj; cases hkj
            rw [List.getElem?_eq_getElem this] at hkj
            simp [this, Option.some.inj hkj]
          · simp [hn]
        rwa [this] at hs
      · have : (ents.modify j fun e => { e with key := X, val := Y }).toList.map (·.val) = (ents.toList.map (·.val)).set j Y := by
          apply List.ext_getElem?
          intro n
          rw [List.getElem?_map, Array.getElem?_toList, Array.getElem?_modify, List.getElem?_set, List.getElem?_map, Array.getElem?_toList]
          by_cases hn : j = n
          · subst hn; simp [hej, hj']
          · simp [hn]
        rw [this]
        exact RVs_set hvs hy j
  · cases hv

theorem map_erase {α β : Type} (f : α → β) (l : List α) (n : Nat) : (l.eraseIdx n).map f = (l.map f).eraseIdx n := by
  rw [List.eraseIdx_eq_take_drop_succ, List.eraseIdx_eq_take_drop_succ]
  simp

theorem delete_does (ok : Ok ρ I h w.heap) {t u kt et : TypeId} {kk : SK} (ht : P.underlying t = some (.map kt et)) (hk : keyKind P kt = some kk) {rt : TypeId}
    {m x : AV} {M X : Value} (hm : RV ρ I w.heap m M) (hx : RV ρ I w.heap x X) {sl : List AV} {am ax : Arg} (em : am.val sl = m) (ex : ax.val sl = x) {v : AV}
    (hv : memV sl h (.delete kk am ax) = some (v, h')) : v = .tup [] ∧ ∃ w', (Builtin.delete_ #[t, u] rt #[M, X]).run P w = .ok (.tuple #[]) w' ∧ Ext ρ I h w.heap ρ I h' w'.heap ∧ Quiet w w' := by
  simp only [memV, em, ex] at hv
  obtain ⟨hkx, hv⟩ := bif_some hv
  cases m <;> simp only [reduceCtorEq] at hv
  rename_i id
  obtain ⟨b, hρ, rfl⟩ := hm
  split at hv
  · rename_i ks vs hob
    obtain ⟨r, hf, hv⟩ := bind_some' hv
    obtain ⟨ents, clock, hb, hbn, hks, hvs⟩ := map_obj ok hρ hob
    obtain ⟨d, hd, hdk⟩ := keyType_spec hk
    obtain ⟨g1, g2⟩ := run_findKey (P := P) (w := w) hd hdk hx (keyFits_of hk hd hkx) hks hf
    have hck : (Instr.checkKey ents.isEmpty 10000 kt X).run P w = .ok () w := run_checkKey hk ents.isEmpty X 9999
    cases r with
    | none =>
      obtain ⟨h1, hset, hv⟩ := bind_some' hv
      cases hv
      refine ⟨rfl, _, ?_, map_ext (ents' := ents) (clock' := clock) ok hρ hob hb hset hbn hks hvs, rfl, rfl, rfl⟩
      simp [Builtin.delete_, run_underlying ht, run_getMap hb, hck, g1, run_setMap hb]
    | some j =>
      obtain ⟨h1, hset, hv⟩ := bind_some' hv
      cases hv
      have hj := g2 j rfl
      have hj' : j < ents.size := by simpa using hj
      have hej : ents[j]? = some ents[j] := Array.getElem?_eq_getElem hj'
      refine ⟨rfl, _, ?_, map_ext (ents' := ents.eraseIdxIfInBounds j) (clock' := clock) ok hρ hob hb hset ?_ ?_ ?_, rfl, rfl, rfl⟩
      · simp [Builtin.delete_, run_underlying ht, run_getMap hb, hck, g1, hej, run_setMap hb]
      · exact hbn.erase j
      · have := RVs_eraseIdx hks j
        simpa [Array.eraseIdxIfInBounds, hj', map_erase] using this
      · have := RVs_eraseIdx hvs j
        simpa [Array.eraseIdxIfInBounds, hj', map_erase] using this
  · cases hv
end
end Go.Ai
