/-
  (*Chain).Live, as a primitive.
-/
import Derived.Test.YticmjjeicpejcaaCnLive
set_option linter.unusedVariables false
set_option linter.unusedSimpArgs false
namespace Go.Proofs.Yticmjjeicpejcaa
open Go.Ai Go.RowKit Go.Maps Go.Sort Go.Shelf

def insZ (x : Int) : List Int → List Int
  | [] => [x]
  | y :: r => bif decide (x ≤ y) then x :: y :: r else y :: insZ x r
def sortZ : List Int → List Int
  | [] => []
  | x :: r => insZ x (sortZ r)
def intA : AV → Int
  | .int _ a => a
  | _ => 0
def wfI : AV → Bool
  | .int .i64 a => (Lit.int .i64 a).wf
  | _ => false
def listI : List Int → AV
  | [] => .empt true
  | x :: r => .list ((x :: r).map (AV.int .i64))

def liveP : Prim := fun call cl args h => match args with
  | [p] => (call .M 14 [p] h).bind fun r => bif Nat.beq r.2.next h.next then (match r.1 with
     | .bool true => some (.empt true, h)
     | .bool false => (match p with
        | .ptr id off => (h.cells? id).bind fun cs => match cs[off]? with
           | some (.mref m) => (match h.heap m with
              | some (.map ks _) => bif distinctK .int ks && (ks.all wfI && Nat.ble ks.length 17592186044415) then some (listI (sortZ (ks.map intA)), h) else none
              | _ => none)
           | _ => none
        | _ => none)
     | _ => none) else none
  | _ => none

theorem insZ_perm (x : Int) : ∀ l : List Int, (insZ x l).Perm (x :: l)
  | [] => .refl _
  | y :: r => by
    unfold insZ
    cases decide (x ≤ y)
    · exact ((insZ_perm x r).cons y).trans (.swap ..)
    · exact .refl _
theorem sortZ_perm : ∀ l : List Int, (sortZ l).Perm l
  | [] => .refl _
  | x :: r => (insZ_perm x _).trans ((sortZ_perm r).cons x)
theorem insZ_sorted (x : Int) : ∀ l : List Int, l.Pairwise (· ≤ ·) → (insZ x l).Pairwise (· ≤ ·)
  | [], _ => by simp [insZ]
  | y :: r, h => by
    obtain ⟨h1, h2⟩ := List.pairwise_cons.1 h
    unfold insZ
    cases hxy : decide (x ≤ y) with
    | true =>
      have hxy := of_decide_eq_true hxy
      refine List.pairwise_cons.2 ⟨fun z hz => ?_, h⟩
      rcases List.mem_cons.1 hz with rfl | hz
      · exact hxy
      · exact Int.le_trans hxy (h1 z hz)
    | false =>
      have hxy := of_decide_eq_false hxy
      refine List.pairwise_cons.2 ⟨fun z hz => ?_, insZ_sorted x r h2⟩
      rcases List.mem_cons.1 ((insZ_perm x r).mem_iff.1 hz) with rfl | hz
      · omega
      · exact h1 z hz
theorem sortZ_sorted : ∀ l : List Int, (sortZ l).Pairwise (· ≤ ·)
  | [] => by simp [sortZ]
  | x :: r => insZ_sorted x _ (sortZ_sorted r)

theorem mergeSort_sortZ {ss l : List Int} (hp : ss.Perm l) : ss.mergeSort (fun x y => decide (x ≤ y)) = sortZ l := by
  have tr : ∀ a b c : Int, decide (a ≤ b) = true → decide (b ≤ c) = true → decide (a ≤ c) = true := fun a b c h1 h2 => by simp only [decide_eq_true_eq] at *; exact Int.le_trans h1 h2
  have to : ∀ a b : Int, (decide (a ≤ b) || decide (b ≤ a)) = true := fun a b => by simp only [Bool.or_eq_true, decide_eq_true_eq]; exact Int.le_total a b
  refine List.Perm.eq_of_pairwise (le := fun a b => decide (a ≤ b) = true) (fun a b _ _ h1 h2 => ?_) (List.pairwise_mergeSort tr to ss) ((sortZ_sorted l).imp (fun h => by simpa using h)) ((List.mergeSort_perm ss _).trans (hp.trans (sortZ_perm l).symm))
  simp only [decide_eq_true_eq] at h1 h2
  exact Int.le_antisymm h1 h2

section
variable {ρ : Rho} {I : Nat → Prop} {hp : Hp}

/-- Keys that are whole numbers of 64 bits. -/
theorem keys_ints : ∀ {ks : List AV} {Xs : List Value}, ks.all wfI = true → RVs ρ I hp ks Xs → Xs = (ks.map intA).map encZ ∧ ∀ a ∈ ks.map intA, (Lit.int .i64 a).wf = true
  | [], Xs, _, h => by
    have : Xs = [] := h
    subst this
    exact ⟨rfl, fun a h => by simp at h⟩
  | k :: ks, Xs, hw, h => by
    obtain ⟨v, vs, rfl, h1, h2⟩ := h
    simp only [List.all_cons, Bool.and_eq_true] at hw
    obtain ⟨g1, g2⟩ := keys_ints hw.2 h2
    have hk := hw.1
    unfold wfI at hk
    split at hk
    · rename_i a
      have : v = .int .i64 a := h1
      subst this
      refine ⟨by simp [g1, intA, encZ], fun b hb => ?_⟩
      simp only [List.map_cons, List.mem_cons] at hb
      rcases hb with rfl | hb
      · exact hk
      · exact g2 b hb
    · cases hk

theorem keys_apart : ∀ {ks : List AV} {Xs : List Value}, distinctK .int ks = true → ks.all wfI = true → RVs ρ I hp ks Xs → Xs.Pairwise (fun x y => x ≠ y)
  | [], Xs, _, _, h => by
    have : Xs = [] := h
    subst this
    exact .nil
  | k :: ks, Xs, hd, hw, h => by
    obtain ⟨v, vs, rfl, h1, h2⟩ := h
    simp only [List.all_cons, Bool.and_eq_true] at hw
    simp only [distinctK, Bool.and_eq_true] at hd
    refine List.pairwise_cons.2 ⟨fun y hy e => ?_, keys_apart hd.2 hw.2 h2⟩
    subst e
    have hk := hw.1
    unfold wfI at hk
    split at hk
    · rename_i a
      have : v = .int .i64 a := h1
      subst this
      have hf : ∀ k' ∈ ks, scalarEq (.int .i64 a) k' = some false := by
        have := hd.1.2
        split at this
        · rename_i e; exact findKeyA_none e
        · cases this
      obtain ⟨g1, _⟩ := keys_ints hw.2 h2
      rw [g1] at hy
      simp only [List.map_map, List.mem_map, Function.comp_apply, encZ, Value.int.injEq, true_and] at hy
      obtain ⟨k', hk', e⟩ := hy
      have hw' := List.all_eq_true.1 hw.2 k' hk'
      unfold wfI at hw'
      split at hw'
      · rename_i a'
        have : a' = a := e
        subst this
        have := hf _ hk'
        simp [scalarEq] at this
      · cases hw'
    · cases hk

/-- Growth alone, of which all may be let be. -/
theorem Ext_growImm {h : AH} {hp' : Hp} (ok : Ok ρ I h hp) (hsz : hp.size ≤ hp'.size) (hpre : ∀ j, j < hp.size → hp'[j]? = hp[j]?) : Ext ρ I h hp ρ (fun b => I b ∨ (hp.size ≤ b ∧ b < hp'.size)) h hp' := by
  have hsh : ShapeLe hp hp' := fun b c E fz hb => ⟨c, fz, by rw [hpre b (block_lt hb)]; exact hb, rfl⟩
  exact {
    rel := {
      imm := fun b hb => by
        rcases hb with hb | hb
        · exact Nat.lt_of_lt_of_le (ok.rel.imm b hb) hsz
        · exact hb.2
      apart := fun id b o h1 h2 h3 => by
        rcases h3 with h3 | h3
        · exact ok.rel.apart id b o h1 h2 h3
        · have := ok.rel.block_lt (h := h) h1 h2
          omega
      obj := fun id b o ob h1 h2 => ObjOk_mono (fun _ _ h => h) (fun _ h => .inl h) (fun b hb => hpre b (ok.rel.imm b hb)) hsh (hpre b (ok.rel.block_lt (h := h) h1 (by rw [h2]; simp))) (ok.rel.obj id b o ob h1 h2)
      inj := ok.rel.inj }
    next := Nat.le_refl _
    lock := rfl
    rho := fun _ _ => rfl
    imm := fun _ h => .inl h
    own := fun b hb h => by
      rcases h with h | h
      · exact .inl h
      · omega
    ownρ := fun id b o h1 h2 => by omega
    size := hsz
    frame := fun b hb _ => hpre b hb
    shape := hsh
    dead := fun _ _ h => h
    low := fun _ _ => rfl
    fresh := ok.fresh }

theorem vflat_ints : ∀ l : List Int, vflat (l.map encZ) = l.map encZ
  | [] => rfl
  | x :: r => by
    simp only [List.map_cons, vflat, vflat_ints r]
    rfl

theorem RVs_ints : ∀ l : List Int, RVs ρ I hp (l.map (AV.int .i64)) (l.map encZ)
  | [] => rfl
  | x :: r => ⟨_, _, rfl, rfl, RVs_ints r⟩
end

theorem AH_ext {a b : AH} (h1 : a.heap = b.heap) (h2 : a.next = b.next) (h3 : a.lock = b.lock) : a = b := by
  cases a; cases b
  simp only at h1 h2 h3
  subst h1 h2 h3
  rfl

/-- The map, as the shelf says it. -/
theorem owns_of {w : World} {b : Nat} {ρ : Rho} {I : Nat → Prop} {ents : Array MapEntry} {clock : Nat} {ks : List AV} (hb : w.heap[b]? = some (.map ents clock)) (hbn : Borns ents clock) (hks : RVs ρ I w.heap ks (ents.toList.map (·.key)))
    (hd : distinctK .int ks = true) (hw : ks.all wfI = true) (hl : ks.length ≤ 17592186044415) :
    ∃ D0 : DataW Unit, w.ownsMap Try.prog 3 (fun _ => some (.nil, [])) b ents.size D0 ∧ (intKeys D0).Perm (ks.map intA) ∧ Maps.size D0 = ks.length := by
  obtain ⟨g1, g2⟩ := keys_ints hw hks
  have hlen : ents.toList.length = ks.length := by
    have := RVs_length _ _ hks
    simpa using this
  have hk3 : Try.prog.underlying 3 = some (.int .i64) := Try.underlying3
  have hkey : ∀ x ∈ ents.toList, ∃ a, x.key = .int .i64 a ∧ (Lit.int .i64 a).wf = true := by
    intro x hx
    have : x.key ∈ ents.toList.map (·.key) := List.mem_map_of_mem hx
    rw [g1] at this
    obtain ⟨a, ha, e⟩ := List.mem_map.1 this
    exact ⟨a, e.symm, g2 a ha⟩
  have hrd : ∀ x ∈ ents.toList, ∃ a, x.key = .int .i64 a ∧ Go.WideElems.rd Try.prog 3 (fun _ => some ((.nil : DataW Unit), [])) x = some (.int .i64 a, .nil) := by
    intro x hx
    obtain ⟨a, e, hwf⟩ := hkey x hx
    refine ⟨a, e, ?_⟩
    unfold Go.WideElems.rd
    rw [e, keyOf_int_mk hk3 hwf]
    rfl
  have hperm : ∀ l : List (Lit × DataW Unit), (l.foldr DataW.insert []).Perm l := by
    intro l
    induction l with
    | nil => exact .refl _
    | cons x l ih => exact (Go.WideShapes.insert_perm x _).trans (ih.cons x)
  refine ⟨.map ((ents.toList.map (Go.WideElems.rg Try.prog 3 fun _ => some (.nil, []))).foldr DataW.insert []), ⟨ents, clock, hb, ⟨?_, ?_, ?_⟩, Nat.le_refl _, rfl⟩, ?_, ?_⟩
  · have : ents.size = ks.length := by simpa using hlen
    unfold maxLen
    omega
  · rw [Go.MapKept.stamped_iff]
    refine ⟨hbn.lt, hbn.nodup, ?_⟩
    have := keys_apart hd hw hks
    rwa [List.pairwise_map] at this
  · intro x hx
    obtain ⟨a, _, e⟩ := hrd x hx
    exact ⟨_, e⟩
  · have h1 : intKeys (.map ((ents.toList.map (Go.WideElems.rg Try.prog 3 fun _ => some ((.nil : DataW Unit), []))).foldr DataW.insert [])) = ((ents.toList.map (Go.WideElems.rg Try.prog 3 fun _ => some ((.nil : DataW Unit), []))).foldr DataW.insert []).map fun p => _root_.Go.intOf p.1 := rfl
    rw [h1]
    refine ((hperm _).map _).trans ?_
    have h2 : (ents.toList.map (Go.WideElems.rg Try.prog 3 fun _ => some ((.nil : DataW Unit), []))).map (fun p => _root_.Go.intOf p.1) = ks.map intA := by
      have h3 : (ents.toList.map (Go.WideElems.rg Try.prog 3 fun _ => some ((.nil : DataW Unit), []))).map (fun p => _root_.Go.intOf p.1) = (ents.toList.map (·.key)).map fun v => match v with | .int _ a => a | _ => 0 := by
        rw [List.map_map, List.map_map]
        apply List.map_congr_left
        intro x hx
        obtain ⟨a, e1, e2⟩ := hrd x hx
        simp only [Function.comp_apply, Go.WideElems.rg_of e2, e1, _root_.Go.intOf]
      rw [h3, g1, List.map_map]
      have : ((fun v => match v with | Value.int _ a => a | _ => 0) ∘ encZ) = id := by
        funext a
        rfl
      rw [this, List.map_id]
    rw [h2]
  · rw [Maps.size_eq, (hperm _).length_eq, List.length_map]
    exact hlen

theorem liveOk {call : CallFn} (hcall : CallOk Try.prog call) : OneOk Try.prog 8 (liveP call) := by
  intro cl args h v h' he
  unfold liveP at he
  split at he
  · rename_i p
    obtain ⟨r, hr, he⟩ := bind_some' he
    obtain ⟨hnx, he⟩ := bif_some he
    obtain ⟨r1, r2⟩ := r
    simp only at he hnx
    have hnx := Nat.eq_of_beq_eq_true hnx
    obtain ⟨ha, hM, _, hC⟩ := hcall _ _ _ _ _ _ hr
    have hh : h' = h := by
      split at he
      · cases he; rfl
      · split at he
        · obtain ⟨cs, _, he⟩ := bind_some' he
          split at he
          · split at he
            · obtain ⟨_, he⟩ := bif_some he
              cases he; rfl
            · cases he
          · cases he
        · cases he
      · cases he
    subst hh
    refine ⟨.refl _, fun _ _ _ => rfl, ⟨Try.f8, Try.func8, rfl, by decide⟩, ?_⟩
    intro ρ I w cargs ok hn hargs
    obtain ⟨X, rest, hc1, hX, hrest⟩ := hargs
    have hrest : rest = [] := hrest
    subst hrest
    have : cargs = #[X] := Array.toList_inj.1 hc1
    subst this
    have hr2 : r2 = h' := by
      refine AH_ext ?_ hnx ha.lock
      funext id
      rcases Nat.lt_or_ge id h'.next with hid | hid
      · exact hM (by simp) id hid
      · rw [ok.fresh id hid]
        exact ha.fresh ok.fresh id (by omega)
    subst hr2
    have hlive := live_calls (w := w) (X := X) (Q := fun v' w' => ∃ ρ' I', RV ρ' I' w'.heap v v' ∧ Ext ρ I r2 w.heap ρ' I' r2 w'.heap ∧ Quiet w w') ((hC ρ I w #[X] ok (fun id h1 h2 => by omega) ⟨X, [], rfl, hX, rfl⟩).mono ?_)
    · refine hlive.mono ?_
      rintro e w' ⟨v', rfl, ρ', I', g1, g2, g3⟩
      exact ⟨v', ρ', I', rfl, g1, g2, g3⟩
    · rintro e w1 ⟨cv, ρ1, I1, rfl, rv, ext, q⟩
      split at he
      · cases he
        have rv : cv = .bool true := rv
        subst rv
        exact ⟨true, rfl, fun _ => ⟨ρ1, I1, ⟨none, rfl, fun _ => rfl⟩, ext, q⟩, fun e => by cases e⟩
      · have rv : cv = .bool false := rv
        subst rv
        refine ⟨false, rfl, (fun e => by cases e), fun _ => ?_⟩
        cases p <;> simp only [reduceCtorEq] at he
        case ptr =>
          rename_i id off _ _
          obtain ⟨cs, hcs, he⟩ := bind_some' he
          split at he
          · rename_i m hm
            split at he
            · rename_i ks vs hob
              obtain ⟨hb3, he⟩ := bif_some he
              simp only [Bool.and_eq_true] at hb3
              obtain ⟨hd, hw, hl⟩ := hb3
              have hl := Nat.le_of_ble_eq_true hl
              cases he
              obtain ⟨b, o, hρ, rfl⟩ := hX
              have ok1 : Ok ρ1 I1 r2 w1.heap := ok.next ext
              have hρ1 : ρ1 id = some (b, o) := by rw [ext.rho id (by omega)]; exact hρ
              obtain ⟨arr, E, vs', h1, h2, h3, _⟩ := cells_lie ok1 hρ1 hcs
              obtain ⟨X2, g1, g2⟩ := RVs_get _ _ h2 off _ hm
              obtain ⟨bm, hρm, rfl⟩ := g2
              refine ⟨b, o + off, some bm, rfl, ?_, ?_⟩
              · rw [cell?_of h1]
                exact (h3 off _ g1).1
              obtain ⟨ents, clock, hbm, hbn, hks, _⟩ := map_obj ok1 hρm hob
              obtain ⟨D0, hown, hperm, hsize⟩ := owns_of hbm hbn hks hd hw hl
              refine (Try.keys_calls (some bm) w1).mono ?_
              rintro e w2 ⟨rfl, rfl⟩
              refine ⟨_, rfl, (Try.sorted_calls bm ents.size D0 _ w1 hown (by rw [hsize]; unfold maxLen; omega) (by rw [hsize]; omega)).mono ?_⟩
              rintro e w3 ⟨v', ss, rfl, hss, hrow, hnil, hbl⟩
              refine ⟨v', rfl, ρ1, (fun b => I1 b ∨ (w1.heap.size ≤ b ∧ b < w3.heap.size)), ?_, ext.trans (Ext_growImm ok1 hbl.size (fun j hj => hbl.block j hj)), ⟨hbl.os.trans q.os, hbl.output.trans q.output, hbl.tape.trans q.tape⟩⟩
              have hsort := mergeSort_sortZ (hss.trans hperm)
              rw [hsort] at hrow
              have hlen : (sortZ (ks.map intA)).length = ss.length := by
                rw [← hsort, List.length_mergeSort]
              generalize sortZ (ks.map intA) = l at hrow hlen
              cases l with
              | nil =>
                have : ss = [] := List.eq_nil_of_length_eq_zero (by simpa using hlen.symm)
                obtain rfl := hnil.2 this
                exact ⟨none, rfl, fun _ => rfl⟩
              | cons x l =>
                obtain ⟨hrl, hrow⟩ := hrow
                rcases hrow with ⟨rfl, hz⟩ | ⟨g, cap, cur, rfl, k1, k2, k3, k4, k5, k6⟩
                · simp [hz] at hlen
                · have hll : ((x :: l).map (AV.int .i64)).length = ss.length := by rw [List.length_map]; exact hlen
                  refine ⟨some ⟨g, 0, none⟩, cap, by rw [hll], by rw [hll]; exact k3, .inr ⟨g, 0, (x :: l).map encZ, 1, rfl, .inr ⟨k1, block_lt k2⟩, ⟨cur, 3, (0, 0), k2, fun j u hj => ?_⟩, RVs_ints _, fun u hu => ?_⟩⟩
                  · rw [vflat_ints] at hj
                    rw [← k6] at hj
                    refine ⟨?_, ?_⟩
                    · rw [List.getElem?_take] at hj
                      split at hj
                      · simpa using hj
                      · cases hj
                    · have := List.mem_of_getElem? hj
                      rw [k6] at this
                      obtain ⟨a, _, rfl⟩ := List.mem_map.1 this
                      rfl
                  · obtain ⟨a, _, rfl⟩ := List.mem_map.1 hu
                    rfl
            · cases he
          · cases he
      · cases he
  · cases he
end Go.Proofs.Yticmjjeicpejcaa
