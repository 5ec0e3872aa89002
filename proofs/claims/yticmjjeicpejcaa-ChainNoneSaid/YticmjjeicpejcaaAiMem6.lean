/-
  Every operation without a call: what it does.
-/
import Derived.Test.YticmjjeicpejcaaAiMem5
set_option linter.unusedVariables false
set_option linter.unusedSimpArgs false
namespace Go.Ai
section
variable {ρ : Rho} {I : Nat → Prop} {P : Program} {h h' : AH} {w : World}

theorem copy_does (ok : Ok ρ I h w.heap) {t u rt e e' : TypeId} {k : EK} {i : TypeInfo} (ht : P.underlying t = some (.slice e)) (hi : P.info? e = some i) (hsz : i.size = k.size)
    {x y : AV} {X Y : Value} (hx : RV ρ I w.heap x X) (hy : RV ρ I w.heap y Y) {v : AV} (hv : copyV h k x y = some (v, h')) :
    ∃ w' cv, (Builtin.copy_ #[t, u] rt #[X, Y]).run P w = .ok cv w' ∧ RV ρ I w'.heap v cv ∧ Ext ρ I h w.heap ρ I h' w'.heap ∧ Quiet w w' := by
  unfold copyV at hv
  obtain ⟨n, hn, hv⟩ := bind_some' hv
  obtain ⟨m, hm, hv⟩ := bind_some' hv
  obtain ⟨_, A, c, rfl⟩ := lenV_sound (P := P) (w := w) hx hn
  obtain ⟨hml, A', c', rfl⟩ := lenV_sound (P := P) (w := w) hy hm
  have core : ∀ (arr : Array Value) (w' : World), (Builtin.firstCells k.size (Nat.min m n) (.slice A' m c')).run P w = .ok arr w → (match A with | some a => storeCells a arr.toList | none => pure ()).run P w = .ok () w' →
      (Builtin.copy_ #[t, u] rt #[.slice A n c, .slice A' m c']).run P w = .ok (goInt (Nat.min m n)) w' := by
    intro arr w' h1 h2
    cases A with
    | none =>
      simp only [Sem.run_pure, Result.ok.injEq, true_and] at h2
      subst h2
      simp [Builtin.copy_, run_underlying ht, hml, run_sizeOf' hi, hsz, h1]
    | some a => simp [Builtin.copy_, run_underlying ht, hml, run_sizeOf' hi, hsz, h1, h2]
  cases hk : Nat.beq (Nat.min m n) 0 with
  | true =>
    simp only [hk, cond_true] at hv
    cases hv
    have hk := Nat.eq_of_beq_eq_true hk
    refine ⟨w, _, core #[] w ?_ ?_, ?_, .refl ok.rel ok.fresh, .refl _⟩
    · rw [hk]
      cases A' with
      | none => rfl
      | some a => simp only [Builtin.firstCells, Nat.zero_mul]; rfl
    · cases A <;> rfl
    · rw [hk]; rfl
  | false =>
    simp only [hk, cond_false] at hv
    obtain ⟨new, hs, hv⟩ := bind_some' hv
    obtain ⟨arr, a1, a2, a3, a4⟩ := source_sound (P := P) ok hy hs
    cases x with
    | sref id off len cap ek =>
      obtain ⟨h1, hv⟩ := bif_some hv
      obtain ⟨cs, hcs, hv⟩ := bind_some' hv
      obtain ⟨cs', hsp, hv⟩ := bind_some' hv
      obtain ⟨h2, hset, hv⟩ := bind_some' hv
      cases hv
      obtain ⟨b, o, cc, hρ, e, _⟩ := hx
      cases e
      obtain ⟨w', s1, s2⟩ := write_does (P := P) ok hρ hcs hsp hset a2 a3
      exact ⟨w', _, core arr w' (a1 w rfl) s1, rfl, s2⟩
    | _ => cases hv

theorem clear_does (ok : Ok ρ I h w.heap) {t rt e : TypeId} {k : EK} {i : TypeInfo} {z : Value} {zs : List AV} (ht : P.underlying t = some (.slice e)) (hi : P.info? e = some i) (hz : i.zero = some z) (hsz : i.size = k.size) (hpos : 1 ≤ k.size)
    (hzr : RVs ρ I w.heap zs z.cells.toList) (hzc : allCells z.cells.toList) {x : AV} {X : Value} (hx : RV ρ I w.heap x X) {v : AV} (hv : clearV h k zs x = some (v, h')) :
    ∃ w' cv, (Builtin.clear_ #[t] rt #[X]).run P w = .ok cv w' ∧ RV ρ I w'.heap v cv ∧ Ext ρ I h w.heap ρ I h' w'.heap ∧ Quiet w w' := by
  have nothing : ∀ A c, X = .slice A 0 c → (Builtin.clear_ #[t] rt #[X]).run P w = .ok (.tuple #[]) w := by
    intro A c e
    subst e
    cases A <;> simp [Builtin.clear_, run_underlying ht]
  have htup : RV ρ I w.heap (.tup []) (.tuple #[]) := ⟨#[], rfl, rfl⟩
  unfold clearV at hv
  cases x with
  | empt b =>
    cases hv
    obtain ⟨A, e, _⟩ := hx
    exact ⟨w, _, nothing A 0 e, htup, .refl ok.rel ok.fresh, .refl _⟩
  | list es =>
    cases es with
    | nil =>
      cases hv
      obtain ⟨A, c, e, _⟩ := hx
      exact ⟨w, _, nothing A c e, htup, .refl ok.rel ok.fresh, .refl _⟩
    | cons _ _ => cases hv
  | sref id off len cap ek =>
    obtain ⟨h1, hv⟩ := bif_some hv
    simp only [Bool.and_eq_true] at h1
    have hzl := Nat.eq_of_beq_eq_true h1.2
    obtain ⟨b, o, c, hρ, e, _⟩ := hx
    cases hl : Nat.beq len 0 with
    | true =>
      rw [hl] at hv
      cases hv
      have hl := Nat.eq_of_beq_eq_true hl
      subst hl
      exact ⟨w, _, nothing _ _ e, htup, .refl ok.rel ok.fresh, .refl _⟩
    | false =>
      rw [hl] at hv
      have hl : len ≠ 0 := fun e => by subst e; cases hl
      obtain ⟨cs, hcs, hv⟩ := bind_some' hv
      obtain ⟨cs', hsp, hv⟩ := bind_some' hv
      obtain ⟨h2, hset, hv⟩ := bind_some' hv
      cases hv
      have hzsz : z.cells.size = k.size := by
        have := RVs_length _ _ hzr
        rw [Array.length_toList] at this
        omega
      obtain ⟨w', s1, s2⟩ := write_does (P := P) ok hρ hcs hsp hset (RVs_reps hzr len) (allCells_zrow hzc len)
      refine ⟨w', .tuple #[], ?_, ⟨#[], rfl, rfl⟩, s2⟩
      subst e
      cases len with
      | zero => exact absurd rfl hl
      | succ n => simp [Builtin.clear_, run_underlying ht, run_zeroValue' hi hz, zeroCells_eq (z := z.cells) (by omega), s1]
  | _ => cases hv

theorem bslice_does (ok : Ok ρ I h w.heap) (hnext : ∀ id, h.next ≤ id → id < h'.next → ρ id = none) {t e : TypeId} {k : EK} {i : TypeInfo} {z : Value} {zs : List AV} (ht : P.underlying t = some (.slice e)) (hi : P.info? e = some i) (hz : i.zero = some z)
    (hsz : i.size = k.size) (hpos : 1 ≤ k.size) (hzr : RVs ρ I w.heap zs z.cells.toList) (hzc : allCells z.cells.toList) {len : Nat} (hmax : len * k.size ≤ 16777216)
    {parts : Array (Nat × Operand)} {ps : List (Nat × Nat × Arg)} (hps : compParts P (fun i => some (i * k.size, k.size)) parts.toList = some ps) {sl : List AV} {a : Act} (hs : Slots ρ I w.heap sl a) (hzl : zs.length = k.size)
    {v : AV} (hv : memV sl h (.bslice k len zs ps) = some (v, h')) :
    ∃ ρ' I' w' cv, (Instr.buildSlice t len (parts.map fun (i, x) => (i, a.eval x))).run P w = .ok cv w' ∧ RV ρ' I' w'.heap v cv ∧ Ext ρ I h w.heap ρ' I' h' w'.heap ∧ Quiet w w' := by
  simp only [memV] at hv
  obtain ⟨cs, hf, hv⟩ := bind_some' hv
  have hzsz : z.cells.size = k.size := by
    have := RVs_length _ _ hzr
    rw [Array.length_toList] at this
    omega
  have hrow : ((Array.range (len * k.size)).map (z.cells[· % z.cells.size]!)).toList = zrow z.cells len := zeros_eq (by omega) len _ (by rw [hzsz])
  obtain ⟨out, o1, o2, o3⟩ := fill_sound hs parts.toList ps (reps zs len) _ cs hps (by rw [hrow]; exact RVs_reps hzr len) (by rw [hrow]; exact allCells_zrow hzc len) hf
  have hrun : (Instr.buildSlice t len (parts.map fun (i, x) => (i, a.eval x))).run P w = .ok (.slice (some ⟨w.heap.size, 0, none⟩) len len) (w.alloc (.cells out e)) := by
    have hm : ¬ (len * k.size > 2 ^ 24) := by have : (2 : Nat) ^ 24 = 16777216 := rfl; omega
    have hp : (parts.map fun x : Nat × Operand => (x.fst, a.eval x.snd)).toList = parts.toList.map fun p => (p.1, a.eval p.2) := by simp
    unfold Instr.buildSlice
    simp only [Sem.run_bind, run_underlying ht, Result.andThen_ok, run_sizeOf' hi, hsz, hm, if_false, Sem.run_pure]
    by_cases h0 : len * k.size = 0
    · rw [if_pos h0]
      simp only [Sem.run_bind, Sem.run_pure, Result.andThen_ok]
      have hinit : (Array.range (len * k.size)).map (fun x => (#[] : Array Value)[x % (#[] : Array Value).size]!) = (Array.range (len * k.size)).map (fun x => z.cells[x % z.cells.size]!) := by
        rw [h0]
        apply Array.ext_getElem?
        intro j
        simp
      rw [hinit, hp, o1]
      simp [newRow]
    · rw [if_neg h0]
      simp only [Sem.run_bind, Sem.run_pure, Result.andThen_ok, run_zeroValue' hi hz]
      rw [hp, o1]
      simp [newRow]
  cases hl : Nat.beq len 0 with
  | true =>
    rw [hl] at hv
    cases hv
    have hl := Nat.eq_of_beq_eq_true hl
    subst hl
    refine ⟨ρ, _, _, _, hrun, ⟨_, rfl, by simp⟩, Ext.newImm ok.rel ok.fresh _, rfl, rfl, rfl⟩
  | false =>
    rw [hl] at hv
    obtain ⟨h1, hv⟩ := bif_some hv
    cases hv
    simp only [Bool.and_eq_true] at h1
    have hcl := Nat.eq_of_beq_eq_true h1.1
    have hol : out.size = len * k.size := by
      have := RVs_length _ _ o2
      rw [Array.length_toList] at this
      omega
    refine ⟨ρ.put h.next (w.heap.size, 0), I, _, _, hrun, ?_, ?_, rfl, rfl, rfl⟩
    · exact RV_sref_new ok (Nat.le_refl _) (push_get _) (by omega)
    · exact newCells_ext ok (hnext _ (Nat.le_refl _) (by simp [AH.new])) e o2 o3 (fun j v hv => by rw [← Array.getElem?_toList]; exact hv)

theorem mkslice_does (ok : Ok ρ I h w.heap) (hnext : ∀ id, h.next ≤ id → id < h'.next → ρ id = none) {t e : TypeId} {k : EK} {i : TypeInfo} {z : Value} {zs : List AV} (ht : P.underlying t = some (.slice e)) (hi : P.info? e = some i) (hz : i.zero = some z)
    (hsz : i.size = k.size) (hpos : 1 ≤ k.size) (hzr : RVs ρ I w.heap zs z.cells.toList) (hzc : allCells z.cells.toList) {x y : AV} {X Y : Value} (hx : RV ρ I w.heap x X) (hy : RV ρ I w.heap y Y)
    {sl : List AV} {ax ay : Arg} (ex : ax.val sl = x) (ey : ay.val sl = y) {v : AV} (hv : memV sl h (.mkslice k i.bytes zs ax ay) = some (v, h')) :
    ∃ ρ' I' w' cv, (Instr.makeSlice t X Y).run P w = .ok cv w' ∧ RV ρ' I' w'.heap v cv ∧ Ext ρ I h w.heap ρ' I' h' w'.heap ∧ Quiet w w' := by
  simp only [memV, ex, ey] at hv
  split at hv
  · rename_i n c
    obtain rfl : X = .int .i64 n := hx
    obtain rfl : Y = .int .i64 c := hy
    split at hv
    · rename_i hnc
      obtain ⟨h1, hv⟩ := bif_some hv
      simp only [Bool.and_eq_true] at h1
      have hroom := roomy_spec h1.1
      have hzl := Nat.eq_of_beq_eq_true h1.2
      have hzsz : z.cells.size = k.size := by
        have := RVs_length _ _ hzr
        rw [Array.length_toList] at this
        omega
      have hcb : c.toNat ≤ 70368744177664 := by
        have : c.toNat ≤ (i.bytes + 1) * c.toNat := Nat.le_mul_of_pos_left _ (by omega)
        omega
      have hbb : i.bytes * c.toNat ≤ 70368744177664 := by
        have : i.bytes * c.toNat ≤ (i.bytes + 1) * c.toNat := Nat.mul_le_mul_right _ (by omega)
        omega
      have hw : ∀ a : Int, 0 ≤ a → a ≤ 70368744177664 → IntKind.i64.wrap a = a := by
        intro a h0 h1
        have : IntKind.i64.wrap a = a := by
          unfold IntKind.wrap
          simp [IntKind.signed, IntKind.bits]
          omega
        exact this
      have hwn := hw n (by omega) (by omega)
      have hwc := hw c (by omega) (by omega)
      have hrow : ((Array.range (c.toNat * k.size)).map (z.cells[· % z.cells.size]!)).toList = zrow z.cells c.toNat := zeros_eq (by omega) _ _ (by rw [hzsz])
      have hrun : ∃ arr : Array Value, (Instr.makeSlice t (.int .i64 n) (.int .i64 c)).run P w = .ok (.slice (some ⟨w.heap.size, 0, none⟩) n.toNat c.toNat) (w.alloc (.cells arr e)) ∧ arr.toList = zrow z.cells c.toNat := by
        refine ⟨_, ?_, hrow⟩
        have hti : (typeInfo e).run P w = .ok i w := by simp [typeInfo, hi]
        have c1 : ¬ c < 0 := by omega
        have c2 : ¬ ((i.bytes : Int) * c > 2 ^ 48) := by
          have : ((i.bytes * c.toNat : Nat) : Int) = (i.bytes : Int) * c := by
            rw [Int.natCast_mul, Int.toNat_of_nonneg (by omega)]
          have h48 : (2 : Int) ^ 48 = 281474976710656 := rfl
          omega
        have c3 : ¬ n < 0 := by omega
        have c4 : ¬ n > c := by omega
        unfold Instr.makeSlice
        simp only [Sem.run_bind, run_underlying ht, Result.andThen_ok, asInt, run_asInt, Sem.run_pure, hti, hwn, hwc, c1, c2, c3, c4, decide_false, Bool.or_self, Bool.false_eq_true, if_false, or_self, run_sizeOf' hi, hsz, run_askRoom]
        by_cases h0 : c.toNat * k.size = 0
        · rw [if_pos h0]
          simp only [Sem.run_bind, Sem.run_pure, Result.andThen_ok]
          have hinit : (Array.range (c.toNat * k.size)).map (fun x => (#[] : Array Value)[x % (#[] : Array Value).size]!) = (Array.range (c.toNat * k.size)).map (fun x => z.cells[x % z.cells.size]!) := by
            rw [h0]
            apply Array.ext_getElem?
            intro j
            simp
          rw [hinit]
          simp [newRow]
        · rw [if_neg h0]
          simp only [Sem.run_bind, Sem.run_pure, Result.andThen_ok, run_zeroValue' hi hz]
          simp [newRow]
      obtain ⟨arr, hrun, harr⟩ := hrun
      cases hc0 : Nat.beq c.toNat 0 with
      | true =>
        rw [hc0] at hv
        cases hv
        have hc0 := Nat.eq_of_beq_eq_true hc0
        have hn0 : n.toNat = 0 := by omega
        rw [hc0, hn0] at hrun
        exact ⟨ρ, _, _, _, hrun, ⟨_, rfl, by simp⟩, Ext.newImm ok.rel ok.fresh _, rfl, rfl, rfl⟩
      | false =>
        rw [hc0] at hv
        cases hv
        have hlen : arr.size = c.toNat * k.size := by
          have := congrArg List.length harr
          rw [Array.length_toList, zrow_length, hzsz] at this
          exact this
        refine ⟨ρ.put h.next (w.heap.size, 0), I, _, _, hrun, ?_, ?_, rfl, rfl, rfl⟩
        · exact RV_sref_new ok (by omega) (push_get _) (by omega)
        · refine newCells_ext ok (hnext _ (Nat.le_refl _) (by simp [AH.new])) e (RVs_reps hzr c.toNat) (allCells_zrow hzc _) (fun j v hv => ?_)
          rw [← Array.getElem?_toList, harr]
          exact hv
    · cases hv
  · cases hv

theorem len_does {t rt : TypeId} (hl : hasLen P t = true) (ok : Ok ρ I h w.heap) {x : AV} {X : Value} (hx : RV ρ I w.heap x X) {sl : List AV} {ax : Arg} (ex : ax.val sl = x) {v : AV} (hv : memV sl h (.len (eqKOf P t) ax) = some (v, h')) :
    h' = h ∧ ∃ cv, (Builtin.len_ #[t] rt #[X]).run P w = .ok cv w ∧ RV ρ I w.heap v cv := by
  have hd : (P.underlying t = some .string ∧ eqKOf P t = .other) ∨ (∃ e, P.underlying t = some (.slice e) ∧ eqKOf P t = .slice) ∨ (∃ k e, P.underlying t = some (.map k e) ∧ eqKOf P t = .map) := by
    unfold hasLen at hl
    unfold eqKOf
    split at hl
    · rename_i h; exact .inl ⟨h, by rw [h]⟩
    · rename_i h; exact .inr (.inl ⟨_, h, by rw [h]⟩)
    · rename_i h; exact .inr (.inr ⟨_, _, h, by rw [h]⟩)
    · cases hl
  simp only [memV, ex] at hv
  rcases hd with ⟨hd, e⟩ | ⟨_, hd, e⟩ | ⟨_, _, hd, e⟩ <;> rw [e] at hv
  · cases x <;> simp only [reduceCtorEq] at hv <;> cases hv
    obtain ⟨s, rfl, rfl⟩ := hx
    exact ⟨rfl, goInt s.size, by simp [Builtin.len_, run_underlying hd], by rw [data_size]; rfl⟩
  · cases x <;> simp only [reduceCtorEq] at hv <;> cases hv
    · obtain ⟨A, rfl, _⟩ := hx
      exact ⟨rfl, goInt (0 : Nat), by simp [Builtin.len_, run_underlying hd], rfl⟩
    · obtain ⟨A, c, rfl, _⟩ := hx
      exact ⟨rfl, _, by simp [Builtin.len_, run_underlying hd]; rfl, rfl⟩
    · obtain ⟨b, o, c, _, rfl, _⟩ := hx
      exact ⟨rfl, _, by simp [Builtin.len_, run_underlying hd]; rfl, rfl⟩
  · cases x <;> simp only [reduceCtorEq] at hv
    case nilmap =>
      cases hv
      obtain rfl : X = .map none := hx
      exact ⟨rfl, goInt (0 : Nat), by simp [Builtin.len_, run_underlying hd], rfl⟩
    case mref id =>
      split at hv
      · rename_i ks vs hob
        cases hv
        obtain ⟨b, hρ, rfl⟩ := hx
        obtain ⟨ents, clock, hb, _, hks, hvs⟩ := map_obj ok hρ hob
        have hlen := RVs_length _ _ hks
        simp only [List.length_map, Array.length_toList] at hlen
        exact ⟨rfl, goInt ents.size, by simp [Builtin.len_, run_underlying hd, run_getMap hb], by rw [hlen]; rfl⟩
      · cases hv
    case imap ks vs =>
      cases hv
      obtain ⟨r, ents, clock, rfl, _, hb, hks, _⟩ := hx
      have hlen := RVs_length _ _ hks
      simp only [List.length_map, Array.length_toList] at hlen
      exact ⟨rfl, goInt ents.size, by simp [Builtin.len_, run_underlying hd, run_getMap hb], by rw [hlen]; rfl⟩

theorem lookup_does (ok : Ok ρ I h w.heap) {t kt et : TypeId} {kk : SK} {i : TypeInfo} {z : Value} {za : AV} (ht : P.underlying t = some (.map kt et)) (hk : keyKind P kt = some kk) (hi : P.info? et = some i) (hz : i.zero = some z)
    (hza : RV ρ I w.heap za z) {m x : AV} {M X : Value} (hm : RV ρ I w.heap m M) (hx : RV ρ I w.heap x X) {sl : List AV} {am ax : Arg} (em : am.val sl = m) (ex : ax.val sl = x) {okk : Bool} {v : AV}
    (hv : memV sl h (.lookup kk za okk am ax) = some (v, h')) : h' = h ∧ ∃ cv, (Instr.lookup t M X okk).run P w = .ok cv w ∧ RV ρ I w.heap v cv := by
  simp only [memV, em, ex] at hv
  obtain ⟨hkx, hv⟩ := bif_some hv
  have two : ∀ {a : AV} {A : Value} (b : Bool), RV ρ I w.heap a A → RV ρ I w.heap (bif okk then .tup [a, .bool b] else a) (if okk then .tuple #[A, .bool b] else A) := by
    intro a A b hA
    cases okk with
    | true => exact ⟨#[A, .bool b], rfl, A, [.bool b], rfl, hA, .bool b, [], rfl, rfl, rfl⟩
    | false => exact hA
  have core : ∀ {ks vs : List AV} {ents : Array MapEntry}, ((M = .map none ∧ ents = #[]) ∨ ∃ b clock, M = .map (some b) ∧ w.heap[b]? = some (Obj.map ents clock)) → RVs ρ I w.heap ks (ents.toList.map (·.key)) → RVs ρ I w.heap vs (ents.toList.map (·.val)) →
      ((findKeyA x ks 0).bind fun r => match r with
        | some i => (vs[i]?).map fun v => ((bif okk then AV.tup [v, .bool true] else v), h)
        | none => some ((bif okk then AV.tup [za, .bool false] else za), h)) = some (v, h') → h' = h ∧ ∃ cv, (Instr.lookup t M X okk).run P w = .ok cv w ∧ RV ρ I w.heap v cv := by
    intro ks vs ents hM hks hvs hv
    obtain ⟨r, hf, hv⟩ := bind_some' hv
    obtain ⟨g1, g2⟩ := run_lookup (P := P) (w := w) ht hk hi hz hx hkx hks hf hM okk
    cases r with
    | none =>
      cases hv
      exact ⟨rfl, _, g1, two false hza⟩
    | some j =>
      obtain ⟨u, hu, hv⟩ := map_some' hv
      cases hv
      obtain ⟨e, he⟩ := g2 j rfl
      simp only [Option.bind_some, he] at g1
      refine ⟨rfl, _, g1, two true ?_⟩
      obtain ⟨V, hV, hr⟩ := RVs_get _ _ hvs j _ hu
      rw [List.getElem?_map, Array.getElem?_toList, he] at hV
      cases hV
      exact hr
  cases m with
  | nilmap =>
    cases hv
    have hM : M = .map none := hm
    exact core (ks := []) (vs := []) (ents := #[]) (.inl ⟨hM, rfl⟩) rfl rfl rfl
  | mref id =>
    simp only at hv
    split at hv
    · rename_i ks vs hob
      obtain ⟨b, hρ, hM⟩ := hm
      obtain ⟨ents, clock, hb, _, hks, hvs⟩ := map_obj ok hρ hob
      exact core (.inr ⟨b, clock, hM, hb⟩) hks hvs hv
    · cases hv
  | imap ks vs =>
    obtain ⟨r, ents, clock, hM, _, hb, hks, hvs⟩ := hm
    exact core (.inr ⟨r, clock, hM, hb⟩) hks hvs hv
  | _ => cases hv
end
end Go.Ai
