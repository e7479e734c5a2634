/- Operations: what they make of related states (8): append. -/
import Derived.Test.YtnnebeidpkaobaaGreatDoorEvOps7
set_option linter.unusedVariables false
set_option linter.unusedSimpArgs false
set_option linter.unusedSectionVars false
namespace Go.Ev
open Go
set_option linter.unusedSectionVars false

/-- What 'append' does once it knows how many come. -/
def tailS (e : TypeId) (size : Nat) (zeros : Bool) (s x : Value) (base : Option Addr) (sLen sCap n : Nat) : Sem Value :=
  let appended : Sem (Array Value) :=
    if !zeros then Builtin.firstCells size n x
    else if n * size = 0 then pure #[]
    else do pure (Builtin.zeroCells (← zeroValue e).cells n)
  let need := sLen + n
  if need ≤ sCap then do
    let new ← appended
    if let some a := base then storeCells (a.add (sLen * size)) new.toList
    pure (.slice base need sCap)
  else do
    if (need : Int) > IntKind.i64.max ∧ (zeros ∨ (← typeInfo e).bytes = 0) then runtimePanic (.error "growslice: len out of range")
    if Builtin.nextslicecap need sCap * (← typeInfo e).bytes > 2 ^ 48 then (if zeros then runtimePanic (.error "growslice: len out of range") else do
      if !(← Builtin.mayShare size sLen n base x) then mark .noRoom
      unsupported (.resourceLimit "append: a slice or a string whose bytes no memory bears"))
    let newCap ← choose (.appendCap need sCap e)
    askRoom (newCap * (← typeInfo e).bytes)
    let old ← Builtin.firstCells size sLen s
    let new ← appended
    let rest := Builtin.zeroCells (← zeroValue e).cells (newCap - need)
    pure (.slice (some (← newRow e (old ++ new ++ rest))) need newCap)

section
variable {P : Program} {C : Ctx} {Cm : Com} {β : Bm} {s s' : St} {w : World} {tm : Tm} {a : Act} {v : EV}

theorem growBy_le (n : Nat) : ∀ (r c : Nat), c ≤ n + (n + 768) / 4 → Builtin.growBy n r c ≤ n + (n + 768) / 4
  | 0, c, h => h
  | r + 1, c, h => by
    unfold Builtin.growBy
    split
    · exact h
    · exact growBy_le n r _ (by omega)

theorem nextcap_le {n c : Nat} (h : c < n) : Builtin.nextslicecap n c ≤ 2 * n + 192 := by
  unfold Builtin.nextslicecap
  split
  · omega
  · split
    · omega
    · have := growBy_le n 4 c (by omega)
      omega

/-- What comes: so many elements, and their cells. -/
structure Comes' (P : Program) (C : Ctx) (Cm : Com) (β : Bm) (w : World) (j : TI) (e : TypeId) (ts : Array TypeId) (X : Value) (rows : List (List EV)) (zeros : Bool) : Prop where
  sz : ∀ r ∈ rows, r.length = j.size
  ty : ∃ t i, ts[1]? = some t ∧ C.ti t = some i ∧ zeros = (match i.desc with | .int _ => true | _ => false)
  cnt : if zeros then ∃ l : Int, (asInt X).run P w = .ok l w ∧ IntKind.i64.wrap l = (rows.length : Int) ∧ ∀ xi, (typeInfo e).run P w = .ok xi w → ¬ ((rows.length : Int) * (xi.bytes : Int) > 2 ^ 48)
    else (Builtin.lenOf X).run P w = .ok rows.length w
  cells : ∀ w' : World, w'.heap = w.heap → ∃ N : Array Value, (if !zeros then Builtin.firstCells j.size rows.length X
    else if rows.length * j.size = 0 then pure #[]
    else do pure (Builtin.zeroCells (← zeroValue e).cells rows.length) : Sem (Array Value)).run P w' = .ok N w' ∧ RepL Cm β rows.flatten N.toList

theorem newRows_sound (hC : CtxOk P C) (h : SInv Cm β s w) {j : TI} {e : TypeId} (hj : C.ti e = some j) {ts : Array TypeId} {x : EV} {X : Value} (hx : Rep Cm β x X) {rows : List (List EV)} (hop : newRows C j ts.toList[1]? x s = some rows) :
    ∃ zeros, Comes' P C Cm β w j e ts X rows zeros := by
  unfold newRows at hop
  split at hop
  · rename_i ti hti
    obtain ⟨t, ht, hti⟩ := bind_some hti
    have ht' : ts[1]? = some t := by simpa using ht
    split at hop
    · rename_i k hD
      split at hop
      · rename_i n z hz
        split at hop
        · rename_i hcond
          cases hop
          obtain ⟨hn0, hn1, hzl, hroom⟩ := hcond
          obtain ⟨hr1, hr2, hr3⟩ := roomOk_some hroom
          obtain ⟨zv, hzv, hz'⟩ := zeroE_some hz
          have hzr : RepL Cm β z.cells zv.cells.toList := ofZ_cells hz'
          have hll := hzr.length
          simp only [Array.length_toList] at hll
          obtain ⟨xi, hxi, hx1, hx2, hx3⟩ := run_info (P := P) (w := w) hC hj
          refine ⟨true, fun r hr => by rw [(List.mem_replicate.1 hr).2]; exact hzl, ⟨t, ti, ht', hti, by rw [hD]⟩, ?_, ?_⟩
          · rw [rep_int hx]
            have hw1 : IntKind.i64.wrap n = n := wrap64_in hn0 (by omega)
            have hbig : ¬ (n * (xi.bytes : Int) > 2 ^ 48) := by
              have : n * (xi.bytes : Int) = ((n.toNat * j.bytes : Nat) : Int) := by
                rw [Int.natCast_mul, Int.toNat_of_nonneg hn0, hx2]
              rw [this]; omega
            simp only [if_true, List.length_replicate]
            refine ⟨n, by simp [asInt, asIntOf], by rw [hw1]; omega, fun xi' hxi' => ?_⟩
            rw [hxi] at hxi'
            cases hxi'
            rw [Int.toNat_of_nonneg hn0]; exact hbig
          · intro w' hw'
            simp only [List.length_replicate, Bool.not_true, Bool.false_eq_true, if_false]
            by_cases h0 : n.toNat * j.size = 0
            · refine ⟨#[], by simp [h0], ?_⟩
              have : (List.replicate n.toNat z.cells).flatten = [] := by
                apply List.eq_nil_of_length_eq_zero
                simp [hzl, h0]
              rw [this]; simpa using RepL.nil
            · refine ⟨Builtin.zeroCells zv.cells n.toNat, by simp [h0, run_zero hC hj hzv], ?_⟩
              unfold Builtin.zeroCells
              rw [range_zero zv.cells.size n.toNat zv.cells rfl]
              exact hzr.flatten_replicate n.toNat
        · cases hop
      · cases hop
    · rename_i hnd
      split at hop
      · rename_i hsz
        obtain ⟨g1, g2, g3⟩ := firstCells_sound (P := P) h hx hsz hop
        have hz : (match ti.desc with | .int _ => true | _ => false) = false := by
          cases hD : ti.desc <;> first | rfl | exact (hnd _ hD).elim
        refine ⟨false, g1, ⟨t, ti, ht', hti, hz.symm⟩, by simpa using g2, fun w' hw' => ?_⟩
        obtain ⟨N, k1, k2⟩ := g3 rows.length (Nat.le_refl _) w' hw'
        rw [List.take_length] at k2
        exact ⟨N, by simpa using k1, k2⟩
      · cases hop
  · cases hop

theorem append_pre (hC : CtxOk P C) {t e : TypeId} {i j : TI} (hi : C.ti t = some i) (hD : i.desc = .slice e) (hj : C.ti e = some j) {ts : Array TypeId} {ty : TypeId} (ht : ts[0]? = some t) {X : Value} {rows : List (List EV)} {zeros : Bool}
    (hc : Comes' P C Cm β w j e ts X rows zeros) (base : Option Addr) (sLen sCap : Nat) :
    (Builtin.append_ ts ty #[.slice base sLen sCap, X]).run P w = (tailS e j.size zeros (.slice base sLen sCap) X base sLen sCap rows.length).run P w := by
  obtain ⟨t1, i1, ht1, hi1, hz⟩ := hc.ty
  have hcnt := hc.cnt
  unfold Builtin.append_
  simp only [List.getElem?_toArray, List.getElem?_cons_zero, List.getElem?_cons_succ, ht, ht1, Sem.run_bind, run_under hC hi, hD, Result.andThen_ok, run_size hC hj, run_under hC hi1, Sem.run_pure]
  cases zeros with
  | true =>
    simp only [if_true] at hcnt
    obtain ⟨l, h1, h2, h3⟩ := hcnt
    obtain ⟨xi, hxi, _⟩ := run_info (P := P) (w := w) hC hj
    cases hd : i1.desc <;> rw [hd] at hz <;> simp only [Bool.true_eq_false] at hz
    unfold tailS
    simp only [if_true, Sem.run_bind, h1, Result.andThen_ok, h2, Sem.run_ite, hxi, Sem.run_pure, if_neg (show ¬ ((rows.length : Int) < 0) by omega), if_neg (h3 xi hxi), Int.toNat_natCast]
    rfl
  | false =>
    simp only [Bool.false_eq_true, if_false] at hcnt
    cases hd : i1.desc <;> rw [hd] at hz <;> simp only [Bool.false_eq_true] at hz <;> unfold tailS <;> simp only [Bool.false_eq_true, if_false, Sem.run_bind, hcnt, Result.andThen_ok] <;> rfl

theorem tail_room (hC : CtxOk P C) {e : TypeId} {j : TI} (hj : C.ti e = some j) {X : Value} {rows : List (List EV)} {zeros : Bool} {ts : Array TypeId} (hc : Comes' P C Cm β w j e ts X rows zeros) {S : Value} {A : Addr} {sLen sCap : Nat} (hfit : sLen + rows.length ≤ sCap) :
    ∃ N : Array Value, RepL Cm β rows.flatten N.toList ∧ (tailS e j.size zeros S X (some A) sLen sCap rows.length).run P w = ((storeCells (A.add (sLen * j.size)) N.toList).run P w).andThen fun _ w' => .ok (.slice (some A) (sLen + rows.length) sCap) w' := by
  obtain ⟨N, h1, h2⟩ := hc.cells w rfl
  refine ⟨N, h2, ?_⟩
  unfold tailS
  simp only []
  rw [if_pos hfit]
  simp only [Sem.run_bind, h1, Result.andThen_ok]
  simp

theorem tail_new (hC : CtxOk P C) {e : TypeId} {j : TI} (hj : C.ti e = some j) {z : EV} (hz : zeroE j = some z) {X : Value} {rows : List (List EV)} {zeros : Bool} {ts : Array TypeId} (hc : Comes' P C Cm β w j e ts X rows zeros) {base : Option Addr} {sLen sCap : Nat} (hfit : sCap < sLen + rows.length)
    (hroom : roomOk (sLen + rows.length) j.bytes = true) {old : List EV} {O : Array Value} (hold : ∀ w' : World, w'.heap = w.heap → (Builtin.firstCells j.size sLen (.slice base sLen sCap)).run P w' = .ok O w') (hro : RepL Cm β old O.toList) :
    ∃ (newCap : Nat) (c : Array Value) (w' : World), sLen + rows.length ≤ newCap ∧ (tailS e j.size zeros (.slice base sLen sCap) X base sLen sCap rows.length).run P w = .ok (.slice (some ⟨w.heap.size, 0, none⟩) (sLen + rows.length) newCap) w' ∧
      w'.heap = w.heap.push (.cells c e (0, 0)) ∧ w'.os = w.os ∧ w'.tape = w.tape ∧ w'.output = w.output ∧ RepL Cm β (old ++ rows.flatten) (c.toList.take (old ++ rows.flatten).length) ∧
      ∃ zv, j.zero = some zv ∧ c.size = O.size + rows.flatten.length + (newCap - (sLen + rows.length)) * zv.cells.size := by
  obtain ⟨hr1, hr2, hr3⟩ := roomOk_some hroom
  obtain ⟨zv, hzv, hz'⟩ := zeroE_some hz
  obtain ⟨xi, hxi, hx1, hx2, hx3⟩ := run_info (P := P) (w := w) hC hj
  have hch : ∃ cp, sLen + rows.length ≤ cp ∧ (choose (.appendCap (sLen + rows.length) sCap e)).run P w = .ok cp { w with drawn := w.drawn + 1 } := by
    refine ⟨(sLen + rows.length) + (w.tape w.drawn (.appendCap (sLen + rows.length) sCap e)) % (2 ^ 63 - (sLen + rows.length)), by omega, ?_⟩
    simp [Question.forced, Question.cut]
  obtain ⟨cp, hcp, hch⟩ := hch
  obtain ⟨N, h1, h2⟩ := hc.cells { w with drawn := w.drawn + 1 } rfl
  have hOl := hro.length; have hNl := h2.length
  refine ⟨cp, O ++ N ++ Builtin.zeroCells zv.cells (cp - (sLen + rows.length)), { w with drawn := w.drawn + 1, heap := w.heap.push (.cells (O ++ N ++ Builtin.zeroCells zv.cells (cp - (sLen + rows.length))) e (0, 0)) }, hcp, ?_, rfl, rfl, rfl, rfl, ?_, zv, hzv, ?_⟩
  · unfold tailS
    simp only []
    rw [if_neg (by omega)]
    have c1 : ¬ (((sLen + rows.length : Nat) : Int) > IntKind.i64.max) := by
      have : IntKind.i64.max = 9223372036854775807 := by decide
      rw [this]; omega
    have hnc := nextcap_le hfit
    have c2 : ¬ (Builtin.nextslicecap (sLen + rows.length) sCap * xi.bytes > 2 ^ 48) := by
      have h3 : Builtin.nextslicecap (sLen + rows.length) sCap * xi.bytes ≤ (2 * (sLen + rows.length) + 192) * j.bytes := by
        rw [hx2]; exact Nat.mul_le_mul_right _ hnc
      have h4 : (2 * (sLen + rows.length) + 192) * j.bytes = 2 * ((sLen + rows.length) * j.bytes) + 192 * j.bytes := by
        rw [Nat.add_mul, Nat.mul_assoc]
      omega
    obtain ⟨xi', hxi', _⟩ := run_info (P := P) (w := { w with drawn := w.drawn + 1 }) hC hj
    generalize (if (!zeros) = true then Builtin.firstCells j.size rows.length X else if rows.length * j.size = 0 then pure #[] else do pure (Builtin.zeroCells (← zeroValue e).cells rows.length) : Sem (Array Value)) = app at h1 ⊢
    simp only [Sem.run_bind, Sem.run_ite, hxi, Result.andThen_ok, c1, false_and, if_false, Sem.run_pure, c2, hch, hxi', run_askRoom, hold { w with drawn := w.drawn + 1 } rfl, h1, run_zero hC hj hzv, newRow, run_newObj]
  · have e1 : (O ++ N ++ Builtin.zeroCells zv.cells (cp - (sLen + rows.length))).toList.take (old ++ rows.flatten).length = O.toList ++ N.toList := by
      simp only [Array.toList_append]
      rw [List.take_append_of_le_length (by simp at hOl hNl ⊢; omega)]
      rw [List.take_of_length_le (by simp at hOl hNl ⊢; omega)]
    rw [e1]
    exact hro.append h2
  · simp only [Array.size_append, Builtin.zeroCells, Array.size_map, Array.size_range]
    simp at hNl
    simp only [List.length_flatten]
    omega
end
end Go.Ev
