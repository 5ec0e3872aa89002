/-
  maps.DeleteFunc, as a primitive.
-/
import Derived.Test.YticmjjeicpejcaaCnDel
set_option linter.unusedVariables false
set_option linter.unusedSimpArgs false
namespace Go.Proofs.Yticmjjeicpejcaa
open Go.Ai

def verdicts (call : CallFn) (f : FuncId) (caps : List AV) (h0 : AH) : List AV → List AV → Option (List Bool)
  | k :: ks, v :: vs => (call .M f (k :: v :: caps) h0).bind fun r => match r.1 with
    | .bool b => bif Nat.beq r.2.next h0.next then (verdicts call f caps h0 ks vs).map (b :: ·) else none
    | _ => none
  | [], [] => some []
  | _, _ => none

def distinctK (kk : SK) : List AV → Bool
  | [] => true
  | k :: ks => keyIs kk k && (match findKeyA k ks 0 with | some none => true | _ => false) && distinctK kk ks

def delP (kk : SK) : Prim := fun call cl args h => match cl, args with
  | .W, [.mref id, .func f caps] => match h.heap id with
    | some (.map ks vs) => bif distinctK kk ks then
        (verdicts call f caps ⟨h.heap.put id none, h.next, h.next⟩ ks vs).bind fun bs =>
        (h.set id (some (.map (keepOf ks bs) (keepOf vs bs)))).map fun h' => (.tup [], h')
      else none
    | _ => none
  | _, _ => none

theorem verdicts_spec {call : CallFn} {f : FuncId} {caps : List AV} {h0 : AH} : ∀ (ks vs : List AV) (bs : List Bool), verdicts call f caps h0 ks vs = some bs → bs.length = ks.length ∧ vs.length = ks.length ∧
    ∀ (i : Nat) (k v : AV) (b : Bool), ks[i]? = some k → vs[i]? = some v → bs[i]? = some b → ∃ h', call .M f (k :: v :: caps) h0 = some (.bool b, h') ∧ h'.next = h0.next
  | [], [], bs, h => by
    cases h
    exact ⟨rfl, rfl, fun i k v b h => by simp at h⟩
  | k :: ks, v :: vs, bs, h => by
    simp only [verdicts] at h
    obtain ⟨r, h1, h⟩ := bind_some' h
    obtain ⟨r1, r2⟩ := r
    simp only at h
    split at h
    · rename_i b
      obtain ⟨hb, h⟩ := bif_some h
      obtain ⟨bs', h2, rfl⟩ := map_some' h
      obtain ⟨l1, l2, l3⟩ := verdicts_spec ks vs bs' h2
      refine ⟨by simp [l1], by simp [l2], fun i k' v' b' hk hv hbb => ?_⟩
      cases i with
      | zero =>
        simp only [List.getElem?_cons_zero, Option.some.injEq] at hk hv hbb
        subst hk hv hbb
        exact ⟨r2, h1, Nat.eq_of_beq_eq_true hb⟩
      | succ i =>
        simp only [List.getElem?_cons_succ] at hk hv hbb
        exact l3 i k' v' b' hk hv hbb
    · cases h
  | [], _ :: _, bs, h => by cases h
  | _ :: _, [], bs, h => by cases h

/-- The keys that are there when some entries have been looked at. -/
def keysAt (seen : Array Nat) : List AV → List (MapEntry × Bool) → List AV
  | k :: ks, p :: Z => bif p.2 && seen.contains p.1.born then keysAt seen ks Z else k :: keysAt seen ks Z
  | _, _ => []

theorem esAt_cons (p : MapEntry × Bool) (Z : List (MapEntry × Bool)) (seen : Array Nat) : esAt (p :: Z) seen = bif p.2 && seen.contains p.1.born then esAt Z seen else p.1 :: esAt Z seen := by
  unfold esAt
  cases h : (p.2 && seen.contains p.1.born) <;> simp only [List.filter_cons, h, Bool.not_true, Bool.not_false, Bool.false_eq_true, if_false, if_true, cond_true, cond_false, List.map_cons]

theorem keysAt_RVs {ρ : Rho} {I : Nat → Prop} {hp : Hp} (seen : Array Nat) : ∀ (ks : List AV) (Z : List (MapEntry × Bool)), RVs ρ I hp ks (Z.map (·.1.key)) → RVs ρ I hp (keysAt seen ks Z) ((esAt Z seen).map (·.key))
  | [], Z, h => by
    have : Z = [] := by
      have := RVs_length _ _ h
      simpa using this
    subst this
    rfl
  | k :: ks, [], h => by
    have := RVs_length _ _ h
    simp at this
  | k :: ks, p :: Z, h => by
    obtain ⟨c, cs, e, h1, h2⟩ := h
    simp only [List.map_cons, List.cons.injEq] at e
    obtain ⟨rfl, rfl⟩ := e
    have ih := keysAt_RVs seen ks Z h2
    rw [esAt_cons]
    simp only [keysAt]
    cases p.2 && seen.contains p.1.born
    · exact ⟨_, _, rfl, h1, ih⟩
    · exact ih

section
variable {ρ ρ' : Rho} {I I' : Nat → Prop} {hp hp' : Hp} {h h' : AH}

theorem RV_key {kk : SK} {k : AV} {X : Value} (hk : keyIs kk k = true) (h : RV ρ I hp k X) : RV ρ' I' hp' k X := by
  cases kk <;> cases k <;> first
    | exact h
    | (simp [keyIs] at hk; done)

theorem RVs_keys {kk : SK} : ∀ {ks : List AV} {Xs : List Value}, distinctK kk ks = true → RVs ρ I hp ks Xs → RVs ρ' I' hp' ks Xs
  | [], Xs, _, h => h
  | k :: ks, Xs, hd, h => by
    obtain ⟨v, vs, rfl, h1, h2⟩ := h
    simp only [distinctK, Bool.and_eq_true] at hd
    exact ⟨v, vs, rfl, RV_key hd.1.1 h1, RVs_keys hd.2 h2⟩

theorem scalarEq_self {kk : SK} {k : AV} (hk : keyIs kk k = true) : scalarEq k k = some true := by
  cases kk <;> cases k <;> first
    | (simp [scalarEq]; done)
    | (simp [keyIs] at hk; done)

theorem beq_comm' {α : Type} [BEq α] [LawfulBEq α] {x y : α} : (x == y) = (y == x) := by
  rw [Bool.eq_iff_iff, beq_iff_eq, beq_iff_eq]
  exact eq_comm

theorem scalarEq_symm {x y : AV} {b : Bool} (hs : scalarEq x y = some b) : scalarEq y x = some b := by
  cases x <;> simp only [scalarEq, reduceCtorEq] at hs <;> cases y <;> simp only [reduceCtorEq] at hs
  · simp only [scalarEq, Option.some.injEq] at hs ⊢; rw [← hs]; exact Bool.beq_comm ..
  · split at hs
    · rename_i e
      subst e
      simp only [scalarEq, if_true, Option.some.injEq] at hs ⊢
      rw [← hs]
      exact beq_comm'
    · cases hs
  · simp only [scalarEq, Option.some.injEq] at hs ⊢
    rw [← hs]
    exact beq_comm'

theorem findKeyA_none {x : AV} : ∀ {ks : List AV} {n : Nat}, findKeyA x ks n = some none → ∀ k ∈ ks, scalarEq x k = some false
  | [], n, _, k, hk => by simp at hk
  | k0 :: ks, n, h, k, hk => by
    simp only [findKeyA, keyEq] at h
    split at h
    · cases h
    · rename_i e
      rcases List.mem_cons.1 hk with rfl | hk
      · exact e
      · exact findKeyA_none h k hk
    · cases h

theorem find_at {kk : SK} {seen : Array Nat} : ∀ {ks : List AV} {Z : List (MapEntry × Bool)} (n i : Nat) {k : AV} {p : MapEntry × Bool}, distinctK kk ks = true → ks.length = Z.length → ks[i]? = some k → Z[i]? = some p → (p.2 && seen.contains p.1.born) = false →
    ∃ j, findKeyA k (keysAt seen ks Z) n = some (some (n + j)) ∧ (esAt Z seen)[j]? = some p.1
  | [], Z, n, i, k, p, hd, hl, hk, hp, hs => by simp at hk
  | k0 :: ks, [], n, i, k, p, hd, hl, hk, hp, hs => by simp at hl
  | k0 :: ks, z0 :: Z, n, i, k, p, hd, hl, hk, hp, hs => by
    simp only [distinctK, Bool.and_eq_true] at hd
    cases i with
    | zero =>
      simp only [List.getElem?_cons_zero, Option.some.injEq] at hk hp
      subst hk hp
      refine ⟨0, ?_, ?_⟩
      · simp only [keysAt, hs, cond_false, findKeyA, keyEq, scalarEq_self hd.1.1]
        rfl
      · rw [esAt_cons, hs]
        rfl
    | succ i =>
      simp only [List.getElem?_cons_succ] at hk hp
      have hkm : k ∈ ks := List.mem_of_getElem? hk
      have hne : scalarEq k k0 = some false := by
        have h2 := hd.1.2
        split at h2
        · rename_i e
          exact scalarEq_symm (findKeyA_none e k hkm)
        · cases h2
      cases hz : (z0.2 && seen.contains z0.1.born) with
      | true =>
        obtain ⟨j, h1, h2⟩ := find_at n i hd.2 (by simpa using hl) hk hp hs
        refine ⟨j, ?_, ?_⟩
        · simp only [keysAt, hz, cond_true]; exact h1
        · rw [esAt_cons, hz]; exact h2
      | false =>
        obtain ⟨j, h1, h2⟩ := find_at (n + 1) i hd.2 (by simpa using hl) hk hp hs
        refine ⟨j + 1, ?_, ?_⟩
        · simp only [keysAt, hz, cond_false, findKeyA, keyEq, hne]
          rw [h1]
          simp only [Option.some.injEq]
          omega
        · rw [esAt_cons, hz]
          simpa using h2

/-- Growth alone. -/
theorem Ext_grow (ok : Ok ρ I h hp) (hsz : hp.size ≤ hp'.size) (hpre : ∀ j, j < hp.size → hp'[j]? = hp[j]?) : Ext ρ I h hp ρ I h hp' := by
  have hsh : ShapeLe hp hp' := fun b c E fz hb => ⟨c, fz, by rw [hpre b (block_lt hb)]; exact hb, rfl⟩
  exact {
    rel := {
      imm := fun b hb => Nat.lt_of_lt_of_le (ok.rel.imm b hb) hsz
      apart := ok.rel.apart
      obj := fun id b o ob h1 h2 => ObjOk_mono (fun _ _ h => h) (fun _ h => h) (fun b hb => hpre b (ok.rel.imm b hb)) hsh (hpre b (ok.rel.block_lt (h := h) h1 (by rw [h2]; simp))) (ok.rel.obj id b o ob h1 h2)
      inj := ok.rel.inj }
    next := Nat.le_refl _
    lock := rfl
    rho := fun _ _ => rfl
    imm := fun _ h => h
    own := fun _ _ h => .inl h
    ownρ := fun id b o h1 h2 => by omega
    size := hsz
    frame := fun b hb _ => hpre b hb
    shape := hsh
    dead := fun _ _ h => h
    low := fun _ _ => rfl
    fresh := ok.fresh }

/-- Without one object, whose block may be another one by then. -/
theorem Ok_without {w W : World} (ok : Ok ρ I h w.heap) {id b : Nat} {ks vs : List AV} (hρ : ρ id = some (b, 0)) (hob : h.heap id = some (.map ks vs)) (hg : w.grownBy W (some b)) :
    Ok ρ I ⟨h.heap.put id none, h.next, h.next⟩ W.heap ∧ (∀ b', I b' → W.heap[b']? = w.heap[b']?) ∧ ShapeLe w.heap W.heap := by
  obtain ⟨ents, clock, hb, _, _, _⟩ := map_obj ok hρ hob
  have hlive : h.heap id ≠ none := by rw [hob]; simp
  have hI : ∀ b', I b' → W.heap[b']? = w.heap[b']? := fun b' hb' => hg.block b' (ok.rel.imm b' hb') (fun e => by
    cases e
    exact ok.rel.apart id _ 0 hρ hlive hb')
  have hsh : ShapeLe w.heap W.heap := fun j c E fz hj => by
    refine ⟨c, fz, ?_, rfl⟩
    rw [hg.block j (block_lt hj) (fun e => by cases e; rw [hb] at hj; cases hj)]
    exact hj
  have hsub : ∀ j, (h.heap.put id none) j ≠ none → j ≠ id ∧ h.heap j ≠ none := by
    intro j hj
    by_cases e : j = id
    · subst e; rw [AHeap.put_same] at hj; exact absurd rfl hj
    · rw [AHeap.put_ne _ _ e] at hj; exact ⟨e, hj⟩
  refine ⟨⟨⟨fun b' hb' => Nat.lt_of_lt_of_le (ok.rel.imm b' hb') hg.size, fun j b' o h1 h2 => ok.rel.apart j b' o h1 (hsub j h2).2, fun j b' o ob h1 h2 => ?_, fun i j b' o o' h1 h2 h3 h4 => ok.rel.inj i j b' o o' h1 h2 (hsub i h3).2 (hsub j h4).2⟩, ?_, Nat.le_refl _⟩, hI, hsh⟩
  · have h3 := hsub j (by simp only at h2; rw [h2]; simp)
    simp only at h2
    rw [AHeap.put_ne _ _ h3.1] at h2
    have hne : b' ≠ b := fun e => h3.1 (ok.rel.inj j id b' o 0 h1 (e ▸ hρ) h3.2 hlive)
    exact ObjOk_mono (fun _ _ h => h) (fun _ h => h) hI hsh (hg.block b' (ok.rel.block_lt (h := h) h1 h3.2) (fun e => hne (by cases e; rfl))) (ok.rel.obj j b' o ob h1 h2)
  · intro j hj
    simp only
    by_cases e : j = id
    · subst e; exact AHeap.put_same _ _ _
    · rw [AHeap.put_ne _ _ e]; exact ok.fresh j hj
end

theorem zip_get {α β : Type} {l : List α} {m : List β} {p : α × β} (h : p ∈ l.zip m) : ∃ i : Nat, (l.zip m)[i]? = some p ∧ l[i]? = some p.1 ∧ m[i]? = some p.2 := by
  obtain ⟨i, hi⟩ := List.mem_iff_getElem?.1 h
  refine ⟨i, hi, ?_⟩
  rw [List.getElem?_zip_eq_some] at hi
  exact hi

theorem keepOf_RVs {ρ : Rho} {I : Nat → Prop} {hp : Hp} : ∀ (ks : List AV) (Xs : List Value) (bs : List Bool), RVs ρ I hp ks Xs → RVs ρ I hp (keepOf ks bs) (keepOf Xs bs)
  | [], Xs, bs, h => by
    have : Xs = [] := h
    subst this
    cases bs <;> rfl
  | k :: ks, Xs, [], h => by
    obtain ⟨v, vs, rfl, _, _⟩ := h
    rfl
  | k :: ks, Xs, b :: bs, h => by
    obtain ⟨v, vs, rfl, h1, h2⟩ := h
    cases b
    · exact ⟨_, _, rfl, h1, keepOf_RVs ks vs bs h2⟩
    · exact keepOf_RVs ks vs bs h2

theorem delOk {call : CallFn} (hcall : CallOk Try.prog call) : OneOk Try.prog 22 (delP .int call) := by
  intro cl args h v h' he
  unfold delP at he
  split at he
  · rename_i id f caps
    split at he
    · rename_i ks vs hob
      obtain ⟨hdist, he⟩ := bif_some he
      obtain ⟨bs, hbs, he⟩ := bind_some' he
      obtain ⟨h1, hset, e⟩ := map_some' he
      cases e
      have hlive : h.heap id ≠ none := by rw [hob]; simp
      obtain ⟨l1, l2, l3⟩ := verdicts_spec ks vs bs hbs
      refine ⟨Abs.set hset hlive, fun hW => absurd rfl hW, ⟨Try.f22, Try.func22, rfl, by decide⟩, ?_⟩
      intro ρ I w cargs ok hn hargs
      obtain ⟨cm, rest, hc1, hm, cf, rest2, hc2, hf, hc3⟩ := hargs
      obtain ⟨b, hρ, rfl⟩ := hm
      obtain ⟨cb, rfl, hcaps⟩ := hf
      have hc3 : rest2 = [] := hc3
      subst hc3 hc2
      have hcargs : cargs = #[.map (some b), .func (.func f) #[] cb] := by
        apply Array.toList_inj.1
        rw [hc1]
      subst hcargs
      obtain ⟨ents, clock, hb, hbn, hks, hvs⟩ := map_obj ok hρ hob
      have lk : ents.toList.length = ks.length := by
        have := RVs_length _ _ hks
        simpa using this
      generalize hZ : ents.toList.zip bs = Z
      have hZ1 : Z.map (·.1) = ents.toList := by
        rw [← hZ]
        exact List.map_fst_zip (by omega)
      have hlen : ks.length = Z.length := by
        rw [← hZ, List.length_zip]
        omega
      have hkZ : ∀ {ρ I hp}, RVs ρ I hp ks (ents.toList.map (·.key)) → RVs ρ I hp ks (Z.map (·.1.key)) := by
        intro ρ I hp h
        rw [← hZ1, List.map_map] at h
        exact h
      have hnod : (Z.map fun p => p.1.born).Nodup := by
        have := hbn.nodup
        rw [← hZ1, List.map_map] at this
        exact this
      have hp : ∀ p ∈ Z, ∃ (i : Nat) (k v : AV), Z[i]? = some p ∧ ks[i]? = some k ∧ vs[i]? = some v ∧ RV ρ I w.heap k p.1.key ∧ RV ρ I w.heap v p.1.val ∧ ∃ h'', call .M f (k :: v :: caps) ⟨h.heap.put id none, h.next, h.next⟩ = some (.bool p.2, h'') ∧ h''.next = h.next := by
        intro p hp
        rw [← hZ] at hp
        obtain ⟨i, hi, hi1, hi2⟩ := zip_get hp
        have hil : i < ks.length := by
          rw [← lk]
          exact (List.getElem?_eq_some_iff.1 hi1).1
        have g1 : ks[i]? = some ks[i] := List.getElem?_eq_getElem hil
        have g2 : vs[i]? = some (vs[i]'(by omega)) := List.getElem?_eq_getElem (by omega)
        obtain ⟨h'', e1, e2⟩ := l3 i _ _ _ g1 g2 hi2
        obtain ⟨K, hK, rK⟩ := RVs_get _ _ hks i _ g1
        obtain ⟨V, hV, rV⟩ := RVs_get _ _ hvs i _ g2
        rw [List.getElem?_map, hi1] at hK hV
        cases hK
        cases hV
        exact ⟨i, _, _, by rw [← hZ]; exact hi, g1, g2, rK, rV, h'', e1, e2⟩
      have ask : DelAsk w b f cb Z := {
        nodup := hnod
        enter := fun p hpZ args W => by
          obtain ⟨i, k, v, _, _, _, _, _, h'', e1, _⟩ := hp p hpZ
          obtain ⟨_, _, ⟨fn, g1, g2, g3⟩, _⟩ := hcall _ _ _ _ _ _ e1
          exact run_callFunc g1 g2 g3 args
        del := fun p hpZ W hW => by
          obtain ⟨i, k, v, _, _, _, rK, rV, h'', e1, e2⟩ := hp p hpZ
          obtain ⟨_, _, _, hC⟩ := hcall _ _ _ _ _ _ e1
          obtain ⟨ok', hI, hsh⟩ := Ok_without ok hρ hob hW
          have mono : ∀ {a v}, RV ρ I w.heap a v → RV ρ I W.heap a v := fun {a v} hv => RV_mono (fun _ _ h => h) (fun _ h => h) hI hsh a v hv
          have hrv : RVs ρ I W.heap (k :: v :: caps) (#[p.1.key, p.1.val] ++ cb).toList := by
            simp only [Array.toList_append]
            exact ⟨_, _, rfl, mono rK, _, _, rfl, mono rV, RVs_mono (fun _ _ h => h) (fun _ h => h) hI hsh _ _ hcaps⟩
          refine (hC ρ I W (#[p.1.key, p.1.val] ++ cb) ok' (fun id h1 h2 => by simp only at h1; omega) hrv).mono ?_
          rintro e W' ⟨cv, ρ', I', rfl, r1, r2, r3⟩
          have r1 : cv = .bool p.2 := r1
          subst r1
          refine ⟨rfl, ⟨r3.os, r3.tape, r3.output, r2.size, fun j hj _ => r2.frame j hj ?_⟩⟩
          rintro ⟨id', o, _, g2, g3⟩
          exact g2 (ok'.fresh id' g3)
        find := fun p hpZ seen W hes => by
          obtain ⟨i, k, v, hi, hk, _, rK, _, _⟩ := hp p hpZ
          have hkept : (p.2 && seen.contains p.1.born) = false := by
            simp only [esAt, List.mem_map, List.mem_filter] at hes
            obtain ⟨q, ⟨hq, hq2⟩, e⟩ := hes
            have : q = p := inj_nodup hnod hq hpZ (by rw [e])
            subst this
            cases hh : (q.2 && seen.contains q.1.born) with
            | false => rfl
            | true => rw [hh] at hq2; cases hq2
          obtain ⟨j, h1, h2⟩ := find_at (seen := seen) 0 i hdist hlen hk hi hkept
          rw [Nat.zero_add] at h1
          refine ⟨j, ?_, h2⟩
          have hkk : keyIs .int k = true := by
            have : ∀ {ks : List AV}, distinctK .int ks = true → k ∈ ks → keyIs .int k = true := by
              intro ks
              induction ks with
              | nil => intro _ h; simp at h
              | cons a l ih =>
                intro hd hm
                simp only [distinctK, Bool.and_eq_true] at hd
                rcases List.mem_cons.1 hm with rfl | hm
                · exact hd.1.1
                · exact ih hd.2 hm
            exact this hdist (List.mem_of_getElem? hk)
          have hd : Try.prog.underlying 3 = some (.int .i64) := Try.underlying3
          have hkt : keyKind Try.prog 3 = some .int := by unfold keyKind; rw [hd]
          have hr := run_findKey (P := Try.prog) (w := W) (ρ := ρ) (I := I) hd (.inl ⟨_, rfl⟩) (RV_key hkk rK) (keyFits_of hkt hd hkk) (keysAt_RVs seen ks Z (hkZ (RVs_keys hdist hks))) h1
          rw [hr.1]
          simp [h2]
        check := fun p hpZ em W => by
          have hkt : keyKind Try.prog 3 = some .int := by unfold keyKind; rw [Try.underlying3]
          exact run_checkKey hkt em p.1.key 9999 }
      have hb' : w.heap[b]? = some (.map (Z.map (·.1)).toArray clock) := by
        rw [hZ1]
        simpa using hb
      refine (del_calls hb' (fun p hpZ => hbn.lt _ (by rw [← hZ1]; exact List.mem_map_of_mem hpZ)) ask).mono ?_
      rintro e W ⟨rfl, hWb, hWg⟩
      have hbl := block_lt hb
      have hblW : b < W.heap.size := Nat.lt_of_lt_of_le hbl hWg.size
      -- the growth ahead of the writing
      have hg1 : Ext ρ I h w.heap ρ I h (W.heap.setIfInBounds b (.map ents clock)) := by
        refine Ext_grow ok (by simpa using hWg.size) (fun j hj => ?_)
        by_cases hjb : j = b
        · subst hjb
          rw [Array.getElem?_setIfInBounds_self_of_lt hblW, hb]
        · rw [Array.getElem?_setIfInBounds_ne (fun e => hjb e.symm)]
          exact hWg.block j hj (fun e => hjb (by cases e; rfl))
      have ok1 : Ok ρ I h (W.heap.setIfInBounds b (.map ents clock)) := ok.next hg1
      have hIb : ¬ I b := ok.rel.apart id b 0 hρ hlive
      have hWI : ∀ j, I j → W.heap[j]? = w.heap[j]? := fun j hj => hWg.block j (ok.rel.imm j hj) (fun e => hIb (by cases e; exact hj))
      have hWS : ShapeLe w.heap W.heap := fun j c E fz hj => by
        refine ⟨c, fz, ?_, rfl⟩
        rw [hWg.block j (block_lt hj) (fun e => by cases e; rw [hb] at hj; cases hj)]
        exact hj
      have hg2 : Ext ρ I h (W.heap.setIfInBounds b (.map ents clock)) ρ I h' W.heap := by
        refine Ext.set ok1.rel ok1.fresh W.heap hset hρ hlive (by simp) (fun j hj => (Array.getElem?_setIfInBounds_ne (fun e => hj e.symm)).symm) ?_ ⟨rfl, _, clock, hWb, ?_, ?_, ?_⟩
        · intro j c E fz hj
          by_cases hjb : j = b
          · subst hjb
            rw [Array.getElem?_setIfInBounds_self_of_lt hblW] at hj
            cases hj
          · rw [Array.getElem?_setIfInBounds_ne (fun e => hjb e.symm)] at hj
            exact ⟨c, fz, hj, rfl⟩
        · have hs : ((Z.filter fun p => !p.2).map (·.1)).Sublist ents.toList := by
            rw [← hZ1]
            exact List.Sublist.map _ List.filter_sublist
          exact ⟨(hs.map _).nodup hbn.nodup, fun e he => hbn.lt e (hs.subset he)⟩
        · have := keepOf_RVs _ _ bs (RVs_mono (ρ' := ρ) (I' := I) (fun _ _ h => h) (fun _ h => h) hWI hWS _ _ hks)
          rw [keepOf_zip, hZ] at this
          exact this
        · have := keepOf_RVs _ _ bs (RVs_mono (ρ' := ρ) (I' := I) (fun _ _ h => h) (fun _ h => h) hWI hWS _ _ hvs)
          rw [keepOf_zip, hZ] at this
          exact this
      exact ⟨_, ρ, I, rfl, ⟨#[], rfl, rfl⟩, hg1.trans hg2, hWg.os, hWg.output, hWg.tape⟩
    · cases he
  · cases he
end Go.Proofs.Yticmjjeicpejcaa
