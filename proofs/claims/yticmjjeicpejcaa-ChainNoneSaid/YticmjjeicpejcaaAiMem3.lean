/-
  New objects: boxes, arrays, maps; maps asked and written.
-/
import Derived.Test.YticmjjeicpejcaaAiMem2
set_option linter.unusedVariables false
set_option linter.unusedSimpArgs false
namespace Go.Ai
section
variable {ρ : Rho} {I : Nat → Prop} {P : Program} {h h' : AH} {w : World}

theorem push_get {hp : Hp} (o : Obj) : (hp.push o)[hp.size]? = some o := by simp

/-- New cells, of the caller's own. -/
theorem newCells_ext (ok : Ok ρ I h w.heap) (hn : ρ h.next = none) {cs : List AV} {vs : List Value} {arr : Array Value} (E : TypeId) (hr : RVs ρ I w.heap cs vs) (hc : allCells vs)
    (harr : ∀ (j : Nat) (v : Value), vs[j]? = some v → arr[j]? = some v) :
    Ext ρ I h w.heap (ρ.put h.next (w.heap.size, 0)) I (h.new (.cells cs)) (w.heap.push (.cells arr E)) := by
  refine Ext.new ok.rel ok.fresh ok.lockle hn _ _ ?_
  refine ⟨arr, E, vs, push_get _, ?_, fun j v hv => ?_⟩
  · exact RVs_mono (Rho.put_le hn) (fun _ h => h) (fun b hb => getElem?_push_lt' _ _ _ (ok.rel.imm b hb)) (.push _ _) _ _ hr
  · rw [Nat.zero_add]
    exact ⟨harr j v hv, hc v (List.mem_of_getElem? hv)⟩

theorem RV_ptr_new (ok : Ok ρ I h w.heap) {I' : Nat → Prop} {hp : Hp} : RV (ρ.put h.next (w.heap.size, 0)) I' hp (.ptr h.next 0) (.pointer (some ⟨w.heap.size, 0, none⟩)) :=
  ⟨w.heap.size, 0, by simp [Rho.put], rfl⟩

theorem box_does (ok : Ok ρ I h w.heap) (hn : ∀ id, h.next ≤ id → id < h'.next → ρ id = none) {E : TypeId} {x : AV} {X : Value} (hx : RV ρ I w.heap x X) {sl : List AV} {ax : Arg} (ex : ax.val sl = x) {frozen : Bool} {v : AV}
    (hv : memV sl h (.box frozen ax) = some (v, h')) :
    ∃ ρ' I', RV ρ' I' (w.heap.push (.cells X.cells E)) v (.pointer (some ⟨w.heap.size, 0, none⟩)) ∧ Ext ρ I h w.heap ρ' I' h' (w.heap.push (.cells X.cells E)) := by
  simp only [memV, ex] at hv
  obtain ⟨hok, hv⟩ := bif_some hv
  obtain ⟨g1, g2⟩ := RV_cells hx hok
  cases frozen with
  | true =>
    cases hv
    refine ⟨ρ, _, ?_, Ext.newImm ok.rel ok.fresh _⟩
    refine ⟨w.heap.size, 0, X.cells.toList, rfl, .inr rfl, ⟨X.cells, E, (0, 0), push_get _, fun j v hv => ?_⟩, ?_⟩
    · rw [Nat.zero_add, ← Array.getElem?_toList]
      exact ⟨hv, g2 v (List.mem_of_getElem? hv)⟩
    · exact RVs_mono (fun _ _ h => h) (fun _ h => .inl h) (fun b hb => getElem?_push_lt' _ _ _ (ok.rel.imm b hb)) (.push _ _) _ _ g1
  | false =>
    cases hv
    refine ⟨_, I, RV_ptr_new ok, newCells_ext ok (hn _ (Nat.le_refl _) (by simp [AH.new])) E g1 g2 (fun j v hv => ?_)⟩
    rw [← Array.getElem?_toList]
    exact hv

theorem run_newVar (E : TypeId) (X : Value) : (newVar E X).run P w = .ok ⟨w.heap.size, 0, none⟩ (w.alloc (.cells X.cells E)) := by
  simp [newVar, newRow]

theorem RV_sref_new (ok : Ok ρ I h w.heap) {I' : Nat → Prop} {hp : Hp} {n c : Nat} {k : EK} {arr : Array Value} {E : TypeId} (hnc : n ≤ c) (hb : hp[w.heap.size]? = some (.cells arr E (0, 0))) (hsz : c * k.size ≤ arr.size) :
    RV (ρ.put h.next (w.heap.size, 0)) I' hp (.sref h.next 0 n c k) (.slice (some ⟨w.heap.size, 0, none⟩) n c) :=
  ⟨w.heap.size, 0, c, by simp [Rho.put], rfl, hnc, Nat.le_refl _, arr, E, (0, 0), hb, by omega⟩

theorem reps_length (z : List AV) : ∀ n, (reps z n).length = n * z.length
  | 0 => by simp [reps]
  | n + 1 => by simp [reps, reps_length z n, Nat.succ_mul]; omega

/-- A row of zeros, as the model makes it. -/
def zrow (z : Array Value) : Nat → List Value
  | 0 => []
  | n + 1 => z.toList ++ zrow z n
theorem zrow_length (z : Array Value) : ∀ n, (zrow z n).length = n * z.size
  | 0 => by simp [zrow]
  | n + 1 => by simp [zrow, zrow_length z n, Nat.succ_mul]; omega
theorem RVs_reps {zs : List AV} {z : Array Value} {hp : Hp} (hz : RVs ρ I hp zs z.toList) : ∀ n, RVs ρ I hp (reps zs n) (zrow z n)
  | 0 => rfl
  | n + 1 => RVs_append hz (RVs_reps hz n)
theorem allCells_zrow {z : Array Value} (hz : allCells z.toList) : ∀ n, allCells (zrow z n)
  | 0 => by simp [zrow, allCells]
  | n + 1 => by
    intro v hv
    simp only [zrow, List.mem_append] at hv
    rcases hv with hv | hv
    · exact hz v hv
    · exact allCells_zrow hz n v hv

theorem zrow_get {z : Array Value} (hz : 0 < z.size) : ∀ (n j : Nat), j < n * z.size → (zrow z n)[j]? = some (z[j % z.size]!)
  | 0, j, h => by simp at h
  | n + 1, j, h => by
    simp only [zrow]
    by_cases hj : j < z.size
    · rw [List.getElem?_append_left (by simpa using hj), Nat.mod_eq_of_lt hj, Array.getElem?_toList]
      simp [hj]
    · rw [List.getElem?_append_right (by simp; omega), Array.length_toList, zrow_get hz n (j - z.size) (by rw [Nat.succ_mul] at h; omega)]
      rw [show j % z.size = (j - z.size) % z.size by rw [Nat.mod_eq_sub_mod (by omega)]]

theorem zeros_eq {z : Array Value} (hz : 0 < z.size) (n m : Nat) (hm : m = n * z.size) : ((Array.range m).map (z[· % z.size]!)).toList = zrow z n := by
  subst hm
  apply List.ext_getElem?
  intro j
  by_cases hj : j < n * z.size
  · rw [zrow_get hz n j hj]
    simp [hj]
  · rw [List.getElem?_eq_none (by simp; omega), List.getElem?_eq_none (by rw [zrow_length]; omega)]

theorem zeroCells_eq {z : Array Value} (hz : 0 < z.size) (n : Nat) : (Builtin.zeroCells z n).toList = zrow z n := zeros_eq hz n _ rfl

theorem mkmap_does (ok : Ok ρ I h w.heap) (hn : ρ h.next = none) :
    Ext ρ I h w.heap (ρ.put h.next (w.heap.size, 0)) I (h.new (.map [] [])) (w.heap.push (.map #[] 0)) ∧ RV (ρ.put h.next (w.heap.size, 0)) I (w.heap.push (.map #[] 0)) (.mref h.next) (.map (some w.heap.size)) := by
  refine ⟨Ext.new ok.rel ok.fresh ok.lockle hn _ _ ⟨rfl, #[], 0, push_get _, .empty, rfl, rfl⟩, w.heap.size, by simp [Rho.put], rfl⟩

/-! ### Keys -/
theorem keyType_spec {kt : TypeId} {kk : SK} (hk : keyKind P kt = some kk) : ∃ d, P.underlying kt = some d ∧ ((∃ k, d = .int k) ∨ d = .string ∨ d = .bool) := by
  unfold keyKind at hk
  split at hk
  · exact ⟨_, by assumption, .inl ⟨_, rfl⟩⟩
  · exact ⟨_, by assumption, .inr (.inl rfl)⟩
  · exact ⟨_, by assumption, .inr (.inr rfl)⟩
  · cases hk

theorem run_checkKey {kt : TypeId} {kk : SK} (hk : keyKind P kt = some kk) (b : Bool) (v : Value) (n : Nat) : (Instr.checkKey b (n + 1) kt v).run P w = .ok () w := by
  obtain ⟨d, hd, h | h | h⟩ := keyType_spec hk
  · obtain ⟨k, rfl⟩ := h
    simp [Instr.checkKey, run_underlying hd]
  · subst h
    simp [Instr.checkKey, run_underlying hd]
  · subst h
    simp [Instr.checkKey, run_underlying hd]

/-- What a key's kind is, where numbers' keys are numbers, and so on. -/
def keyFits : TypeDesc → AV → Bool
  | .int _, .int _ _ | .string, .str _ | .bool, .bool _ => true
  | _, _ => false

theorem keyFits_of {kt : TypeId} {kk : SK} {d : TypeDesc} {x : AV} (hk : keyKind P kt = some kk) (hd : P.underlying kt = some d) (hx : keyIs kk x = true) : keyFits d x = true := by
  unfold keyKind at hk
  rw [hd] at hk
  cases d <;> simp only [reduceCtorEq, Option.some.injEq] at hk <;> subst hk <;> cases x <;> first | rfl | (simp [keyIs] at hx; done)

theorem scalarEq_now {d : TypeDesc} (hd : (∃ k, d = .int k) ∨ d = .string ∨ d = .bool) {x y : AV} {X Y : Value} {r : Bool} (hx : RV ρ I w.heap x X) (hy : RV ρ I w.heap y Y) (hf : keyFits d x = true)
    (he : scalarEq x y = some r) : Instr.sameNow d X Y = some r := by
  cases x <;> simp only [scalarEq, reduceCtorEq] at he <;> cases y <;> simp only [reduceCtorEq] at he
  case bool.bool a b =>
    obtain rfl : X = .bool a := hx
    obtain rfl : Y = .bool b := hy
    cases d <;> simp only [keyFits, reduceCtorEq] at hf
    cases he
    rfl
  case int.int k a k' b =>
    obtain rfl : X = .int k a := hx
    obtain rfl : Y = .int k' b := hy
    cases d <;> simp only [keyFits, reduceCtorEq] at hf
    simpa [Instr.sameNow] using he
  case str.str a b =>
    obtain ⟨X, rfl, rfl⟩ := hx
    obtain ⟨Y, rfl, rfl⟩ := hy
    cases d <;> simp only [keyFits, reduceCtorEq] at hf
    cases he
    simp only [Instr.sameNow]
    rw [beq_toListBytes, toList_data, toList_data]

theorem findNow_sound {d : TypeDesc} (hd : (∃ k, d = .int k) ∨ d = .string ∨ d = .bool) {x : AV} {X : Value} (hx : RV ρ I w.heap x X) (hf : keyFits d x = true) :
    ∀ (ks : List AV) (ents : List MapEntry) (i : Nat) (r : Option Nat), RVs ρ I w.heap ks (ents.map (·.key)) → findKeyA x ks i = some r →
      Instr.findNow d X ents i = some (r.bind fun j => (ents[j - i]?).map fun e => (j, e.val)) ∧ (∀ j, r = some j → i ≤ j ∧ j - i < ents.length)
  | [], ents, i, r, hr, h => by
    simp only [RVs] at hr
    have : ents = [] := by simpa using hr
    subst this
    cases h
    exact ⟨rfl, fun j hj => by cases hj⟩
  | k :: ks, ents, i, r, hr, h => by
    obtain ⟨K, Ks, e, h1, h2⟩ := hr
    cases ents with
    | nil => simp at e
    | cons en ents =>
      simp only [List.map_cons, List.cons.injEq] at e
      obtain ⟨rfl, rfl⟩ := e
      simp only [findKeyA, keyEq] at h
      cases hs : scalarEq x k with
      | none => rw [hs] at h; cases h
      | some t =>
        rw [hs] at h
        have hn := scalarEq_now hd hx h1 hf hs
        cases t with
        | true =>
          cases h
          simp [Instr.findNow, hn]
        | false =>
          obtain ⟨g1, g2⟩ := findNow_sound hd hx hf ks ents (i + 1) r h2 h
          refine ⟨?_, fun j hj => ?_⟩
          · simp only [Instr.findNow, hn, g1]
            cases r with
            | none => rfl
            | some j =>
              have := g2 j rfl
              simp only [Option.bind_some]
              rw [show j - i = (j - (i + 1)) + 1 by omega, List.getElem?_cons_succ]
          · have := g2 j hj
            simp only [List.length_cons]
            omega

theorem run_findKey {kt : TypeId} {d : TypeDesc} (hd : P.underlying kt = some d) (hdk : (∃ k, d = .int k) ∨ d = .string ∨ d = .bool) {x : AV} {X : Value} (hx : RV ρ I w.heap x X) (hf : keyFits d x = true)
    {ks : List AV} {ents : List MapEntry} {r : Option Nat} (hr : RVs ρ I w.heap ks (ents.map (·.key))) (h : findKeyA x ks 0 = some r) :
    (Instr.findKey kt X ents).run P w = .ok (r.bind fun j => (ents[j]?).map fun e => (j, e.val)) w ∧ (∀ j, r = some j → j < ents.length) := by
  obtain ⟨g1, g2⟩ := findNow_sound hdk hx hf ks ents 0 r hr h
  refine ⟨?_, fun j hj => by have := g2 j hj; omega⟩
  simp [Instr.findKey, run_underlying hd, g1]
end
end Go.Ai
