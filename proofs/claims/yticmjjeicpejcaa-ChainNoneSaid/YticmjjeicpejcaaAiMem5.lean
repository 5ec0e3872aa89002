/-
  Slices appended to, copied into, cleared; arrays made.
-/
import Derived.Test.YticmjjeicpejcaaAiMem4
set_option linter.unusedVariables false
set_option linter.unusedSimpArgs false
namespace Go.Ai
section
variable {ρ : Rho} {I : Nat → Prop} {P : Program} {h h' : AH} {w : World}

theorem RVs_flat {hp : Hp} : ∀ {es : List AV} {vs : List Value}, RVs ρ I hp es vs → es.all AV.cellOk = true → RVs ρ I hp (flat es) (vflat vs) ∧ allCells (vflat vs)
  | [], vs, h, _ => by
    simp only [RVs] at h
    subst h
    exact ⟨rfl, by simp [vflat, allCells]⟩
  | e :: es, vs, h, hok => by
    obtain ⟨v, vs', rfl, h1, h2⟩ := h
    simp only [List.all_cons, Bool.and_eq_true] at hok
    obtain ⟨g1, g2⟩ := RV_cells h1 hok.1
    obtain ⟨g3, g4⟩ := RVs_flat h2 hok.2
    refine ⟨RVs_append g1 g3, fun u hu => ?_⟩
    simp only [vflat, List.mem_append] at hu
    rcases hu with hu | hu
    · exact g2 u hu
    · exact g4 u hu

theorem vflat_take_sub {hp : Hp} {b o : Nat} {vs : List Value} (h : Lies hp b o (vflat vs)) (n : Nat) : Lies hp b o (vflat (vs.take n)) := by
  have h' := h
  rw [← List.take_append_drop n vs, vflat_append] at h'
  have := Lies.sub (x := []) (y := vflat (vs.take n)) (z := vflat (vs.drop n)) (by simpa using h')
  simpa using this

/-- What is appended or copied, as the model reads it. -/
theorem source_sound (ok : Ok ρ I h w.heap) {e : EK} {n : Nat} {y : AV} {Y : Value} {new : List AV} (hy : RV ρ I w.heap y Y) (hs : source h e n y = some new) :
    ∃ arr : Array Value, (∀ w' : World, w'.heap = w.heap → (Builtin.firstCells e.size n Y).run P w' = .ok arr w') ∧ RVs ρ I w.heap new arr.toList ∧ allCells arr.toList ∧ arr.size = n * e.size := by
  unfold source at hs
  cases y <;> simp only [reduceCtorEq] at hs
  case empt b =>
    obtain ⟨h1, hs⟩ := bif_some hs
    cases hs
    have h1 := Nat.eq_of_beq_eq_true h1
    subst h1
    obtain ⟨A, rfl, _⟩ := hy
    refine ⟨#[], fun w' _ => ?_, rfl, by simp [allCells], by simp⟩
    cases A with
    | none => rfl
    | some a => simp only [Builtin.firstCells, Nat.zero_mul]; rfl
  case list es =>
    obtain ⟨h1, hs⟩ := bif_some hs
    cases hs
    simp only [Bool.and_eq_true] at h1
    obtain ⟨⟨c1, c2⟩, c3⟩ := h1
    have c1 := Nat.le_of_ble_eq_true c1
    have c3 := Nat.eq_of_beq_eq_true c3
    obtain ⟨A, cap, rfl, hcap, hes⟩ := hy
    rcases hes with rfl | ⟨b, o, vs, m, rfl, hI, hlie, hrv, hn⟩
    · have : n = 0 := by simpa using c1
      subst this
      refine ⟨#[], fun w' _ => ?_, rfl, by simp [allCells], by simp⟩
      cases A with
      | none => rfl
      | some a => simp only [Builtin.firstCells, Nat.zero_mul]; rfl
    · obtain ⟨g1, g2⟩ := RVs_flat (RVs_take hrv n) c2
      have hl := vflat_take_sub hlie n
      have hlen := RVs_length _ _ g1
      refine ⟨(vflat (vs.take n)).toArray, fun w' hw' => ?_, by simpa using g1, by simpa using g2, by simpa using hlen.trans c3⟩
      have := run_load_cells (P := P) (w := w') (by rw [hw']; exact hl)
      rw [hlen, c3] at this
      simpa [Builtin.firstCells] using this
  case sref id off len cap e' =>
    obtain ⟨h1, hs⟩ := bif_some hs
    obtain ⟨cs, hcs, hs⟩ := bind_some' hs
    obtain ⟨h2, hs⟩ := bif_some hs
    cases hs
    have h2 := Nat.eq_of_beq_eq_true h2
    obtain ⟨b, o, c, hρ, rfl, _⟩ := hy
    obtain ⟨arr, E, us, g1, g2, g3, _⟩ := cells_lie ok hρ hcs
    have hr := RVs_take (RVs_drop g2 off) (n * e.size)
    have hl := lies_drop g1 g3 off (n * e.size)
    have hlen := RVs_length _ _ hr
    refine ⟨((us.drop off).take (n * e.size)).toArray, fun w' hw' => ?_, by simpa using hr, fun v hv => ?_, by simpa using hlen.trans h2⟩
    · have := run_load_cells (P := P) (w := w') (by rw [hw']; exact hl)
      rw [hlen, h2] at this
      simpa [Builtin.firstCells] using this
    · have hv : v ∈ (us.drop off).take (n * e.size) := by simpa using hv
      obtain ⟨j, hj⟩ := List.mem_iff_getElem?.1 (List.mem_of_mem_drop (List.mem_of_mem_take hv))
      exact (g3 j v hj).2

theorem lenV_sound {hp : Hp} {y : AV} {Y : Value} {n : Nat} (hy : RV ρ I hp y Y) (h : lenV y = some n) : (Builtin.lenOf Y).run P w = .ok n w ∧ ∃ A c, Y = .slice A n c := by
  cases y <;> simp only [lenV, reduceCtorEq] at h
  case empt b => cases h; obtain ⟨A, rfl, _⟩ := hy; exact ⟨rfl, A, 0, rfl⟩
  case list es => cases h; obtain ⟨A, cap, rfl, _⟩ := hy; exact ⟨rfl, A, cap, rfl⟩
  case sref id off len cap e => cases h; obtain ⟨b, o, c, _, rfl, _⟩ := hy; exact ⟨rfl, _, c, rfl⟩

theorem nextcap_le {need old : Nat} (h : old < need) : Builtin.nextslicecap need old ≤ 2 * need := by
  have hg : ∀ (r c : Nat), 256 ≤ c → c ≤ 2 * need → Builtin.growBy need r c ≤ 2 * need := by
    intro r
    induction r with
    | zero => intro c _ hc; exact hc
    | succ r ih =>
      intro c h1 h2
      simp only [Builtin.growBy]
      split
      · exact h2
      · exact ih _ (by omega) (by omega)
  unfold Builtin.nextslicecap
  split
  · omega
  · split
    · omega
    · exact hg 4 old (by omega) (by omega)

theorem roomy_spec {bytes n : Nat} (h : roomy bytes n = true) : (bytes + 1) * n ≤ 70368744177664 := Nat.le_of_ble_eq_true h

/-- An append that makes a new array: the model's draw says how long. -/
theorem run_append_new {t u rt e e' : TypeId} {k : EK} {i : TypeInfo} {z : Value} (ht : P.underlying t = some (.slice e)) (hu : P.underlying u = some (.slice e')) (hi : P.info? e = some i) (hz : i.zero = some z)
    (hsz : i.size = k.size) (hzs : z.cells.size = k.size) {A : Option Addr} {sLen sCap n : Nat} {Y : Value} (hn : (Builtin.lenOf Y).run P w = .ok n w) (hcap : sCap < sLen + n) (hroom : roomy i.bytes (sLen + n) = true)
    {old new : Array Value} (hold : ∀ w' : World, w'.heap = w.heap → (Builtin.firstCells k.size sLen (.slice A sLen sCap)).run P w' = .ok old w') (hnew : ∀ w' : World, w'.heap = w.heap → (Builtin.firstCells k.size n Y).run P w' = .ok new w')
    (ho : old.size = sLen * k.size) (hne : new.size = n * k.size) :
    ∃ (w' : World) (c : Nat) (arr : Array Value), (Builtin.append_ #[t, u] rt #[.slice A sLen sCap, Y]).run P w = .ok (.slice (some ⟨w.heap.size, 0, none⟩) (sLen + n) c) w' ∧ w'.heap = w.heap.push (.cells arr e) ∧
      Quiet w w' ∧ sLen + n ≤ c ∧ c * k.size ≤ arr.size ∧ ∀ (j : Nat) (v : Value), (old.toList ++ new.toList)[j]? = some v → arr[j]? = some v := by
  have hb := roomy_spec hroom
  have hneed : sLen + n ≤ 70368744177664 := by
    have : sLen + n ≤ (i.bytes + 1) * (sLen + n) := Nat.le_mul_of_pos_left _ (by omega)
    omega
  have hbytes : i.bytes * (sLen + n) ≤ 70368744177664 := by
    have : i.bytes * (sLen + n) ≤ (i.bytes + 1) * (sLen + n) := Nat.mul_le_mul_right _ (by omega)
    omega
  have hcapb : ¬ (Builtin.nextslicecap (sLen + n) sCap * i.bytes > 2 ^ 48) := by
    have h1 := nextcap_le hcap
    have h2 : Builtin.nextslicecap (sLen + n) sCap * i.bytes ≤ 2 * (sLen + n) * i.bytes := Nat.mul_le_mul_right _ h1
    have h3 : 2 * (sLen + n) * i.bytes = 2 * (i.bytes * (sLen + n)) := by rw [Nat.mul_assoc, Nat.mul_comm (sLen + n)]
    have h4 : (2 : Nat) ^ 48 = 281474976710656 := rfl
    omega
  have hmax : ¬ (((sLen + n : Nat) : Int) > IntKind.i64.max ∧ (False ∨ i.bytes = 0)) := by
    have : IntKind.i64.max = 9223372036854775807 := rfl
    omega
  have hle : ¬ (sLen + n ≤ sCap) := by omega
  let w1 : World := { w with drawn := w.drawn + 1 }
  let c := (Question.appendCap (sLen + n) sCap e).cut (w.tape w.drawn (.appendCap (sLen + n) sCap e))
  have hc : sLen + n ≤ c := by simp only [c, Question.cut]; omega
  refine ⟨w1.alloc (.cells (old ++ new ++ Builtin.zeroCells z.cells (c - (sLen + n))) e), c, old ++ new ++ Builtin.zeroCells z.cells (c - (sLen + n)), ?_, rfl, ⟨rfl, rfl, rfl⟩, hc, ?_, ?_⟩
  · have g1 := hold w1 rfl
    have g2 := hnew w1 rfl
    have g3 := run_zeroValue' hi hz w1
    have hti : ∀ w : World, (typeInfo e).run P w = .ok i w := fun w => by simp [typeInfo, hi]
    have hch : (choose (.appendCap (sLen + n) sCap e)).run P w = .ok c w1 := by simp [choose, Sem.run, Question.forced, c, w1]
    simp [Builtin.append_, run_underlying ht, run_underlying hu, run_sizeOf' hi, hsz, hn, hle, hti, hmax, hcapb, hch, g1, g2, g3, newRow]
    rw [if_neg (by omega)]
    have hf : (Question.appendCap (sLen + n) sCap e).forced = false := rfl
    rw [hf]
    simp only [Bool.false_eq_true, if_false]
    rw [show w.drew = w1 from rfl, g1]
    simp only [Result.andThen_ok, g2, g3]
    rfl
  · have : (Builtin.zeroCells z.cells (c - (sLen + n))).size = (c - (sLen + n)) * k.size := by simp [Builtin.zeroCells, hzs]
    simp only [Array.size_append, ho, hne, this, ← Nat.add_mul]
    apply Nat.mul_le_mul_right
    omega
  · intro j v hv
    rw [Array.getElem?_append, Array.getElem?_append]
    have hj : j < old.size + new.size := by
      rcases Nat.lt_or_ge j (old.toList ++ new.toList).length with g | g
      · simpa using g
      · rw [List.getElem?_eq_none g] at hv; cases hv
    rw [if_pos (by simpa using hj)]
    rw [List.getElem?_append] at hv
    simpa using hv

theorem run_append_room {t u rt e e' : TypeId} {k : EK} {i : TypeInfo} (ht : P.underlying t = some (.slice e)) (hu : P.underlying u = some (.slice e')) (hi : P.info? e = some i) (hsz : i.size = k.size)
    {A : Option Addr} {sLen sCap n : Nat} {Y : Value} (hn : (Builtin.lenOf Y).run P w = .ok n w) (hcap : sLen + n ≤ sCap) {new : Array Value} (hnew : (Builtin.firstCells k.size n Y).run P w = .ok new w) {w' : World}
    (hst : (match A with | some a => storeCells (a.add (sLen * k.size)) new.toList | none => pure ()).run P w = .ok () w') :
    (Builtin.append_ #[t, u] rt #[.slice A sLen sCap, Y]).run P w = .ok (.slice A (sLen + n) sCap) w' := by
  cases A with
  | none =>
    simp only [Sem.run_pure, Result.ok.injEq, true_and] at hst
    subst hst
    simp [Builtin.append_, run_underlying ht, run_underlying hu, run_sizeOf' hi, hsz, hn, hcap, hnew]
  | some a => simp [Builtin.append_, run_underlying ht, run_underlying hu, run_sizeOf' hi, hsz, hn, hcap, hnew, hst]

theorem append_does (ok : Ok ρ I h w.heap) (hnext : ∀ id, h.next ≤ id → id < h'.next → ρ id = none) {t u rt e e' : TypeId} {k : EK} {i : TypeInfo} {z : Value} (ht : P.underlying t = some (.slice e)) (hu : P.underlying u = some (.slice e'))
    (hi : P.info? e = some i) (hz : i.zero = some z) (hsz : i.size = k.size) (hzs : z.cells.size = k.size) (hpos : 1 ≤ k.size)
    {x y : AV} {X Y : Value} (hx : RV ρ I w.heap x X) (hy : RV ρ I w.heap y Y) {v : AV} (hv : appendV h k i.bytes x y = some (v, h')) :
    ∃ ρ' I' w' cv, (Builtin.append_ #[t, u] rt #[X, Y]).run P w = .ok cv w' ∧ RV ρ' I' w'.heap v cv ∧ Ext ρ I h w.heap ρ' I' h' w'.heap ∧ Quiet w w' := by
  unfold appendV at hv
  obtain ⟨n, hlen, hv⟩ := bind_some' hv
  obtain ⟨hn, Ay, cy, hYe⟩ := lenV_sound (P := P) (w := w) hy hlen
  cases hn0 : Nat.beq n 0 with
  | true =>
    -- nothing is appended
    rw [hn0] at hv
    have hn0 := Nat.eq_of_beq_eq_true hn0
    subst hn0
    simp only [cond_true] at hv
    have hfirst : (Builtin.firstCells k.size 0 Y).run P w = .ok #[] w := by
      rw [hYe]
      cases Ay with
      | none => rfl
      | some a => simp only [Builtin.firstCells, Nat.zero_mul]; rfl
    have core : ∀ A l c, X = .slice A l c → l ≤ c → (Builtin.append_ #[t, u] rt #[X, Y]).run P w = .ok X w := by
      intro A l c hX hlc
      subst hX
      refine run_append_room ht hu hi hsz hn (by omega) hfirst ?_
      cases A <;> rfl
    cases x <;> simp only [reduceCtorEq] at hv <;> cases hv
    · have hx' := hx
      obtain ⟨A, rfl, _⟩ := hx
      exact ⟨ρ, I, w, _, core _ _ _ rfl (Nat.le_refl _), hx', .refl ok.rel ok.fresh, .refl _⟩
    · have hx' := hx
      obtain ⟨A, cap, rfl, hc, _⟩ := hx
      exact ⟨ρ, I, w, _, core _ _ _ rfl hc, hx', .refl ok.rel ok.fresh, .refl _⟩
    · have hx' := hx
      obtain ⟨b, o, c, _, rfl, h1, h2, _⟩ := hx
      exact ⟨ρ, I, w, _, core _ _ _ rfl (by omega), hx', .refl ok.rel ok.fresh, .refl _⟩
  | false =>
    rw [hn0] at hv
    have hn1 : 0 < n := by
      rcases Nat.eq_zero_or_pos n with e | e
      · subst e; cases hn0
      · exact e
    simp only [cond_false] at hv
    obtain ⟨new, hsrc, hv⟩ := bind_some' hv
    obtain ⟨arr, hnewAll, a2, a3, a4⟩ := source_sound (P := P) ok hy hsrc
    have a1 := hnewAll w rfl
    cases x with
    | empt bb =>
      obtain ⟨hroom, hv⟩ := bif_some hv
      cases hv
      obtain ⟨A, rfl, _⟩ := hx
      obtain ⟨w', c, row, r1, r2, rq, r3, r4, r5⟩ := run_append_new (P := P) (rt := rt) ht hu hi hz hsz hzs (A := A) (sLen := 0) (sCap := 0) hn (by omega) (by rw [Nat.zero_add]; exact hroom) (old := #[])
        (fun w' _ => by cases A with | none => rfl | some a => simp only [Builtin.firstCells, Nat.zero_mul]; rfl) hnewAll (by simp) a4
      rw [Nat.zero_add] at r1 r3
      refine ⟨ρ.put h.next (w.heap.size, 0), I, w', _, r1, ?_, ?_, rq⟩
      · rw [r2]
        refine ⟨w.heap.size, 0, c, by simp [Rho.put], by simp, Nat.le_refl _, r3, row, e, (0, 0), push_get _, by simpa using r4⟩
      · rw [r2]
        exact newCells_ext ok (hnext _ (Nat.le_refl _) (by simp [AH.new])) e a2 a3 (fun j v hv => r5 j v (by simpa using hv))
    | sref id off len cap ek =>
      obtain ⟨heq, hv⟩ := bif_some hv
      simp only [Bool.and_eq_true, beq_iff_eq] at heq
      obtain ⟨cs, hcs, hv⟩ := bind_some' hv
      have hek : ek = k := by
        cases ek; cases k
        simp only at heq
        rw [heq.1, heq.2]
      subst hek
      have hx' := hx
      obtain ⟨b, o, c, hρ, rfl, hlc, hcc, cc, E, fz, hblk, hfit⟩ := hx
      obtain ⟨arr0, E0, us, g1, g2, g3, g4⟩ := cells_lie ok hρ hcs
      cases hroom0 : Nat.ble (len + n) cap with
      | true =>
        rw [hroom0] at hv
        have hroom0 := Nat.le_of_ble_eq_true hroom0
        simp only [cond_true] at hv
        obtain ⟨cs', hsp, hv⟩ := bind_some' hv
        obtain ⟨h1, hset, hv⟩ := bind_some' hv
        cases hv
        obtain ⟨w', s1, s2⟩ := write_does (P := P) ok hρ hcs hsp hset a2 a3
        refine ⟨ρ, I, w', .slice (some ⟨b, o + off, none⟩) (len + n) c, ?_, ?_, s2⟩
        · refine run_append_room ht hu hi hsz hn (by omega) a1 ?_
          simp only [add_none, Nat.add_assoc] at s1 ⊢
          exact s1
        · obtain ⟨c', fz', s3, s4⟩ := s2.1.shape _ _ _ _ hblk
          exact ⟨b, o, c, hρ, rfl, hroom0, hcc, c', E, fz', s3, by omega⟩
      | false =>
        rw [hroom0] at hv
        simp only [cond_false] at hv
        obtain ⟨hroom, hv⟩ := bif_some hv
        obtain ⟨h1, hset, hv⟩ := bind_some' hv
        cases hv
        simp only [Bool.and_eq_true] at hroom
        have hlen0 := Nat.eq_of_beq_eq_true hroom.2
        have hr := RVs_take (RVs_drop g2 off) (len * ek.size)
        have hl := lies_drop g1 g3 off (len * ek.size)
        have hlenv := RVs_length _ _ hr
        obtain ⟨_, hh1⟩ := set_lock hset
        have ext1 := Ext.drop ok.rel ok.fresh hset
        have ok1 : Ok ρ I h1 w.heap := ⟨ext1.rel, ext1.fresh, by rw [hh1]; exact ok.lockle⟩
        have hnx : h1.next = h.next := by rw [hh1]
        have holdw : ∀ w' : World, w'.heap = w.heap → (Builtin.firstCells ek.size len (.slice (some ⟨b, o + off, none⟩) len c)).run P w' = .ok ((us.drop off).take (len * ek.size)).toArray w' := by
          intro w' hw'
          have := run_load_cells (P := P) (w := w') (by rw [hw']; exact hl)
          rw [hlenv, hlen0] at this
          simpa [Builtin.firstCells] using this
        by_cases hc : len + n ≤ c
        · -- there was room, more than was known
          have hacells : ∀ j, j < len * ek.size + arr.size → o + off + j < cc.size := by
            intro j hj
            have : (len + n) * ek.size ≤ c * ek.size := Nat.mul_le_mul_right _ hc
            rw [Nat.add_mul] at this
            omega
          rw [hblk] at g1
          cases g1
          obtain ⟨c', r1, r2⟩ := run_storeCells (P := P) arr.toList 0 w b (o + off + len * ek.size) cc E hblk a3 (by
            have : (len + n) * ek.size ≤ c * ek.size := Nat.mul_le_mul_right _ hc
            rw [Nat.add_mul] at this
            simp only [Array.length_toList]
            omega)
          have hsz' : c'.size = cc.size := by
            have hm : (len + n) * ek.size ≤ c * ek.size := Nat.mul_le_mul_right _ hc
            rw [Nat.add_mul] at hm
            have := congrArg List.length r2
            simp only [Array.length_toList, List.length_append, List.length_take, List.length_drop, Nat.add_zero] at this
            omega
          have hlt := block_lt hblk
          have hshp : ShapeLe w.heap (setBlock w b (.cells c' E (0, 0))).heap := ShapeLe.setBlock hblk hsz'
          have hlive : h.heap id ≠ none := by rw [g4]; simp
          have hIb : ¬ I b := ok.rel.apart id b o hρ hlive
          have hnn : ρ h.next = none := hnext _ (Nat.le_refl _) (by rw [hh1]; simp [AH.new])
          have mono : ∀ {a v}, RVs ρ I w.heap a v → RVs (ρ.put h.next (b, o + off)) I (setBlock w b (.cells c' E (0, 0))).heap a v := fun {a v} hv =>
            RVs_mono (Rho.put_le hnn) (fun _ h => h) (fun j hj => setBlock_ne (b := b) _ (fun e => hIb (by rw [← e]; exact hj))) hshp a v hv
          have hc'get : ∀ j : Nat, c'[j]? = c'.toList[j]? := fun j => by rw [Array.getElem?_toList]
          have hm : (len + n) * ek.size ≤ c * ek.size := Nat.mul_le_mul_right _ hc
          rw [Nat.add_mul] at hm
          have hext := Ext.regrow (h := h) ok.rel ok.fresh ok.lockle hnn hρ hlive (set_lock hset).1 (setBlock w b (.cells c' E (0, 0))).heap (setBlock_size _) (fun j hj => setBlock_ne _ hj) hshp (o + off)
            (.cells ((cs.drop off).take (len * ek.size) ++ new)) (by
              refine ⟨c', E, (us.drop off).take (len * ek.size) ++ arr.toList, setBlock_get _ hlt, mono (RVs_append hr a2), fun j v hv => ?_⟩
              rw [hc'get, r2, Nat.add_zero]
              by_cases hj : j < len * ek.size
              · rw [List.getElem?_append_left (by omega)] at hv
                rw [List.append_assoc, List.getElem?_append_left (by simp; omega), List.getElem?_take, if_pos (by omega), Array.getElem?_toList]
                rw [List.getElem?_take, if_pos hj, List.getElem?_drop] at hv
                have := g3 _ v hv
                rw [show o + (off + j) = o + off + j by omega] at this
                exact this
              · rw [List.getElem?_append_right (by omega), show ((us.drop off).take (len * ek.size)).length = len * ek.size by omega] at hv
                have hj2 : j - len * ek.size < arr.toList.length := by
                  rcases Nat.lt_or_ge (j - len * ek.size) arr.toList.length with k | k
                  · exact k
                  · rw [List.getElem?_eq_none k] at hv; cases hv
                have hlt1 : (cc.toList.take (o + off + len * ek.size)).length = o + off + len * ek.size := by simp; omega
                rw [List.append_assoc, List.getElem?_append_right (by omega), List.getElem?_append_left (by omega), hlt1]
                rw [show o + off + j - (o + off + len * ek.size) = j - len * ek.size by omega]
                exact ⟨hv, a3 v (List.mem_of_getElem? hv)⟩)
          refine ⟨ρ.put h.next (b, o + off), I, setBlock w b (.cells c' E (0, 0)), .slice (some ⟨b, o + off, none⟩) (len + n) c, ?_, ?_, ?_, rfl, rfl, rfl⟩
          · refine run_append_room ht hu hi hsz hn hc a1 ?_
            simp only [add_none]
            exact r1
          · refine ⟨b, o + off, c, by simp [Rho.put], by simp, Nat.le_refl _, hc, c', E, (0, 0), setBlock_get _ hlt, ?_⟩
            omega
          · rw [hh1]
            exact hext
        · obtain ⟨w', c', row, r1, r2, rq, r3, r4, r5⟩ := run_append_new (P := P) (rt := rt) ht hu hi hz hsz hzs (A := some ⟨b, o + off, none⟩) (sLen := len) (sCap := c) hn (by omega) hroom.1 holdw hnewAll (by simpa using hlenv.trans hlen0) a4
          have hcellold : allCells ((us.drop off).take (len * ek.size)) := by
            intro v hv
            obtain ⟨j, hj⟩ := List.mem_iff_getElem?.1 (List.mem_of_mem_drop (List.mem_of_mem_take hv))
            exact (g3 j v hj).2
          have hext := newCells_ext (w := w) ok1 (by rw [hnx]; exact hnext _ (Nat.le_refl _) (by simp [AH.new, hnx])) (arr := row) e (RVs_append hr a2)
            (fun v hv => by rcases List.mem_append.1 hv with hv | hv; exact hcellold v hv; exact a3 v hv) (fun j v hv => r5 j v (by simpa using hv))
          rw [hnx] at hext
          refine ⟨ρ.put h.next (w.heap.size, 0), I, w', _, r1, ?_, ?_, rq⟩
          · rw [r2]
            refine ⟨w.heap.size, 0, c', by simp [Rho.put], by simp, Nat.le_refl _, r3, row, e, (0, 0), push_get _, by simpa using r4⟩
          · rw [r2]
            exact ext1.trans hext
    | _ => cases hv
end
end Go.Ai
