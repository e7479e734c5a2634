/- Operations: what they make of related states (4). -/
import Derived.Test.YtnnebeidpkaobaaGreatDoorEvOps3
set_option linter.unusedVariables false
set_option linter.unusedSimpArgs false
set_option linter.unusedSectionVars false
namespace Go.Ev
open Go
set_option linter.unusedSectionVars false

section
variable {P : Program} {C : Ctx} {Cm : Com} {β : Bm} {s s' : St} {w : World} {tm : Tm} {a : Act} {v : EV}

theorem placesE_run (hC : CtxOk P C) : ∀ {fs : List Field} {pl : List (Nat × Nat)}, placesE C fs = some pl → (fs.mapM fun f => Prod.mk f.offset <$> sizeOf f.type).run P w = .ok pl w := by
  intro fs
  induction fs with
  | nil => intro pl h; simp [placesE] at h; subst h; simp
  | cons f fs ih =>
    intro pl h
    simp only [placesE] at h
    split at h
    · rename_i j r hj hr
      cases h
      simp [List.mapM_cons, run_size hC hj, ih hr]
    · cases h

theorem zeroE_some {i : TI} {z : EV} (h : zeroE i = some z) : ∃ zv, i.zero = some zv ∧ ofZ zv = some z := bind_some h

theorem build_sound (hC : CtxOk P C) (h : SInv Cm β s w) (ht : TmOk Cm β tm a.tmps) {o : Oper} {t : TypeId} {ps : Array (Nat × Operand)} (ho : o.op = .build t ps) (hop : buildO C tm s t ps.toList = some (v, s')) : OpVal P o a w (Post Cm β s w v s') := by
  unfold buildO at hop
  split at hop
  · rename_i vs s1 hps
    obtain ⟨hx, rfl⟩ := just_some hop
    obtain ⟨vs0, hv0, hfz⟩ := bind_some hps
    obtain ⟨k1, r1⟩ := partsE_rep hC ht hv0
    obtain ⟨Cm', h1, st, r2, c1, k2, hd⟩ := freezeP_sound h r1 hfz
    unfold buildE at hx
    split at hx
    · rename_i ti hti
      split at hx
      · rename_i z hz
        obtain ⟨zv, hzv, hz⟩ := zeroE_some hz
        have hkeys : vs.map (·.1) = ((ps.map fun p => (p.1, a.eval p.2)).toList).map (·.1) := by
          rw [k2, k1]; simp
        have hvals : RepL Cm' β (vs.map (·.2)) (((ps.map fun p => (p.1, a.eval p.2)).toList).map (·.2)) := by
          simpa [Function.comp_def] using r2
        have hzc : RepL Cm' β z.cells zv.cells.toList := ofZ_cells hz
        split at hx
        · rename_i fs hD
          split at hx
          · rename_i pl hpl
            simp only [Option.map_eq_some_iff] at hx
            obtain ⟨out, hout, rfl⟩ := hx
            obtain ⟨B, hB, hrB⟩ := fill_sound (Place := fun i => pl.toArray[i]?) (fun i => by rw [lget_eq]; simp) hkeys hvals hd hzc hout
            refine OpVal.mk (x := Instr.build t (ps.map fun p => (p.1, a.eval p.2))) (by rw [execOp, ho]) (V := .agg B) (w' := w) ?_ ⟨Cm', β, h1, st, .agg hrB⟩
            simp [Instr.build, run_zero hC hti hzv, run_under hC hti, hD, Array.mapM_eq_mapM_toList, placesE_run hC hpl]
            simp at hB
            rw [hB]
            simp
          · cases hx
        · rename_i n e hD
          split at hx
          · rename_i j hj
            simp only [Option.map_eq_some_iff] at hx
            obtain ⟨out, hout, rfl⟩ := hx
            obtain ⟨B, hB, hrB⟩ := fill_sound (Place := fun i => some (i * j.size, j.size)) (fun i => rfl) hkeys hvals hd hzc hout
            refine OpVal.mk (x := Instr.build t (ps.map fun p => (p.1, a.eval p.2))) (by rw [execOp, ho]) (V := .agg B) (w' := w) ?_ ⟨Cm', β, h1, st, .agg hrB⟩
            simp at hB
            simp [Instr.build, run_zero hC hti hzv, run_under hC hti, hD, run_size hC hj, hB]
          · cases hx
        · cases hx
      · cases hx
    · cases hx
  · cases hop

theorem flatten_replicate_length {α : Type} (n : Nat) (l : List α) : (List.replicate n l).flatten.length = n * l.length := by simp

theorem lsetN_append {α : Type} (a : List α) : ∀ (xs b : List α) (k : Nat), lsetN (a ++ b) (a.length + k) xs = a ++ lsetN b k xs
  | [], b, k => rfl
  | x :: xs, b, k => by
    rw [lsetN, lsetN, lset_eq, lset_eq, List.set_append_right _ _ (by omega), show a.length + k - a.length = k by omega, Nat.add_assoc, lsetN_append a xs]

theorem flatten_set {sz : Nat} : ∀ (rows : List (List EV)) (i : Nat) (r : List EV), (∀ r ∈ rows, r.length = sz) → r.length = sz → i < rows.length → (rows.set i r).flatten = lsetN rows.flatten (i * sz) r
  | [], i, r, _, _, h => by simp at h
  | r0 :: rs, 0, r, hrows, hr, _ => by
    have h0 := hrows r0 (by simp)
    rw [lsetN_eq _ _ _ (by simp; omega)]
    simp only [List.set_cons_zero, List.flatten_cons, Nat.zero_mul, List.take_zero, List.nil_append, Nat.zero_add]
    rw [List.drop_append, List.drop_of_length_le (by omega), List.nil_append, hr, h0]
    simp
  | r0 :: rs, i + 1, r, hrows, hr, hi => by
    have h0 := hrows r0 (by simp)
    rw [List.set_cons_succ, List.flatten_cons, flatten_set rs i r (fun r hr => hrows r (by simp [hr])) hr (by simpa using hi), List.flatten_cons, Nat.add_mul, Nat.one_mul, Nat.add_comm, ← h0, lsetN_append, h0]

theorem rows_flatten_length {α : Type} {sz : Nat} : ∀ {rows : List (List α)}, (∀ r ∈ rows, r.length = sz) → rows.flatten.length = rows.length * sz
  | [], _ => by simp
  | r :: rs, h => by
    have h0 := h r (by simp)
    have := rows_flatten_length (rows := rs) (fun r hr => h r (by simp [hr]))
    simp only [List.flatten_cons, List.length_append, List.length_cons]
    rw [this, h0, Nat.add_mul]; omega

theorem fillRows_sound {sz : Nat} : ∀ {vs : List (Nat × EV)} {Vs : List (Nat × Value)} {rows out : List (List EV)} {A : Array Value},
    vs.map (·.1) = Vs.map (·.1) → RepL Cm β (vs.map (·.2)) (Vs.map (·.2)) → (∀ p ∈ vs, p.2.isDead = false) → (∀ r ∈ rows, r.length = sz) → RepL Cm β rows.flatten A.toList → fillRows sz rows vs = some out →
    ∃ B, Instr.fill (fun i => some (i * sz, sz)) A Vs = some B ∧ RepL Cm β out.flatten B.toList ∧ (∀ r ∈ out, r.length = sz) ∧ out.length = rows.length := by
  intro vs
  induction vs with
  | nil =>
    intro Vs rows out A hk hr _ hrows hc hf
    cases Vs with
    | nil => simp [fillRows] at hf; subst hf; exact ⟨A, rfl, hc, hrows, rfl⟩
    | cons => simp at hk
  | cons p vs ih =>
    intro Vs rows out A hk hr hd hrows hc hf
    obtain ⟨i, v⟩ := p
    cases Vs with
    | nil => simp at hk
    | cons q Vs =>
      obtain ⟨j, V⟩ := q
      simp only [List.map_cons, List.cons.injEq] at hk
      obtain ⟨rfl, hk⟩ := hk
      cases hr with
      | cons h1 h2 =>
        simp only [fillRows] at hf
        split at hf
        · rename_i hcond
          have hrc := h1.cells (hd (i, v) (by simp))
          have hl := hrc.length
          have hlc := hc.length
          have hfl := rows_flatten_length hrows
          simp only [Array.length_toList] at hl hlc
          have hm : i * sz + sz ≤ rows.length * sz := by
            have := Nat.mul_le_mul_right sz (show i + 1 ≤ rows.length by omega)
            rwa [Nat.add_mul, Nat.one_mul] at this
          rw [lset_eq] at hf
          have hrows' : ∀ r ∈ rows.set i v.cells, r.length = sz := fun r hr => by
            rcases List.mem_or_eq_of_mem_set hr with h | rfl
            · exact hrows r h
            · exact hcond.1
          have hfs := flatten_set rows i v.cells hrows hcond.1 hcond.2
          obtain ⟨B, hB, hrB, ho1, ho2⟩ := ih (A := (lsetN A.toList (i * sz) V.cells.toList).toArray) hk h2 (fun p hp => hd p (by simp [hp])) hrows' (by rw [hfs]; simpa using hc.setN (i * sz) hrc) hf
          refine ⟨B, ?_, hrB, ho1, by simpa using ho2⟩
          simp only [Instr.fill]
          rw [if_neg (by simp; omega)]
          rw [← hB]
          congr 1
          rw [← Array.foldl_toList, Array.toList_zipIdx]
          exact foldl_cells (i * sz) _ A 0
        · cases hf

theorem range_zero (sz n : Nat) (zero : Array Value) (hz : zero.size = sz) : ((Array.range (n * sz)).map fun i => zero[i % zero.size]!).toList = (List.replicate n zero.toList).flatten := by
  induction n with
  | zero => simp
  | succ n ih =>
    rw [List.replicate_succ', List.flatten_append, ← ih]
    simp only [Array.toList_map, Array.toList_range]
    rw [Nat.add_mul, Nat.one_mul, List.range_add, List.map_append, List.map_map]
    congr 1
    simp only [List.flatten_cons, List.flatten_nil, List.append_nil]
    refine List.ext_getElem (by simp [hz]) fun i h1 h2 => ?_
    simp only [List.length_map, List.length_range] at h1
    simp only [List.getElem_map, List.getElem_range, Function.comp, hz]
    rw [Nat.mul_comm n sz, Nat.mul_add_mod, Nat.mod_eq_of_lt h1]
    simp [getElem!_pos, hz, h1]

theorem RepL.flatten_replicate {l : List EV} {L : List Value} (h : RepL Cm β l L) (n : Nat) : RepL Cm β (List.replicate n l).flatten (List.replicate n L).flatten := by
  induction n with
  | zero => exact .nil
  | succ n ih => simpa [List.replicate_succ] using h.append ih

theorem zero_row {j : TI} {z : EV} (hz : zeroE j = some z) (hl : z.cells.length = j.size) (n : Nat) : ∃ zv, j.zero = some zv ∧ ∀ (zero : Array Value), (zero = if n * j.size = 0 then #[] else zv.cells) →
    RepL Cm β (List.replicate n z.cells).flatten ((Array.range (n * j.size)).map fun i => zero[i % zero.size]!).toList := by
  obtain ⟨zv, hzv, hz⟩ := zeroE_some hz
  have hr : RepL Cm β z.cells zv.cells.toList := ofZ_cells hz
  have hll := hr.length
  simp only [Array.length_toList] at hll
  refine ⟨zv, hzv, fun zero h0 => ?_⟩
  by_cases hn : n * j.size = 0
  · rw [hn]
    have : (List.replicate n z.cells).flatten = [] := by
      apply List.eq_nil_of_length_eq_zero
      simp [hl, hn]
    rw [this]
    simpa using RepL.nil
  · rw [if_neg hn] at h0
    subst h0
    rw [range_zero j.size n zv.cells (by omega)]
    exact hr.flatten_replicate n

theorem elemTI_some {t e : TypeId} {j : TI} (h : elemTI C t = some (e, j)) : ∃ i, C.ti t = some i ∧ i.desc = .slice e ∧ C.ti e = some j := by
  unfold elemTI at h
  split at h
  · rename_i i hi
    split at h
    · rename_i e' hd
      simp only [Option.map_eq_some_iff] at h
      obtain ⟨j', hj, he⟩ := h
      cases he
      exact ⟨i, hi, hd, hj⟩
    · cases h
  · cases h

/-- A new array, written later. -/
theorem post_arr (h : SInv Cm β s w) {cells : List EV} {c : Array Value} {elem : TypeId} {n cap sz : Nat} {w' : World} (hr : RepL Cm β cells (c.toList.take cells.length)) (hh : w'.heap = w.heap.push (.cells c elem (0, 0)))
    (ho : w'.os = w.os) (ht : w'.tape = w.tape) (hu : w'.output = w.output) (hn : n ≤ cap) (h1 : cells.length ≤ cap * sz) (h2 : cap * sz ≤ c.size) :
    Post Cm β s w (.sref s.h.length 0 0 n sz) (newBlk s true cells).2 (.slice (some ⟨w.heap.size, 0, none⟩) n cap) w' := by
  obtain ⟨β', k1, k2, k3⟩ := post_newBlk h (arr := true) hh ho ht hu hr
  exact ⟨Cm, β', k1, k2, .sref k3 (Nat.le_refl _) hn (fun _ => ⟨rfl, fun _ => ⟨by simpa using h1, by simpa using h2⟩⟩)⟩

theorem post_rows (h : SInv Cm β s w) {rows : List (List EV)} {c : Array Value} {elem : TypeId} {fr : Nat × Nat} {cap sz : Nat} {clip : Bool} {w' : World} (hsz : ∀ r ∈ rows, r.length = sz) (hr : RepL Cm β rows.flatten (c.toList.take (rows.length * sz)))
    (hh : w'.heap = w.heap.push (.cells c elem fr)) (ho : w'.os = w.os) (ht : w'.tape = w.tape) (hu : w'.output = w.output) (hcap : rows.length ≤ cap) (hclip : clip = true → cap = rows.length) :
    Post Cm β s w (.sl (refsLL rows) clip sz rows) s (.slice (some ⟨w.heap.size, 0, none⟩) rows.length cap) w' := by
  obtain ⟨Cm', k1, k2, k3, k4⟩ := h.commit hh ho ht hu
  refine ⟨Cm', β, k1, k2, .sl k3 hcap hclip hsz (by simpa using hr.mono k4 (.refl _)) (Nat.le_refl _) ?_⟩
  rw [← refsL_flatten]; exact hr.refs_le

theorem buildSlice_run (hC : CtxOk P C) {t e : TypeId} {i j : TI} (hi : C.ti t = some i) (hD : i.desc = .slice e) (hj : C.ti e = some j) {n : Nat} (hle : n * j.size ≤ 2 ^ 24) {zv : Value} (hzv : j.zero = some zv) {zero B : Array Value} {ps : Array (Nat × Value)}
    (hzero : zero = if n * j.size = 0 then #[] else zv.cells) (hB : Instr.fill (fun i => some (i * j.size, j.size)) ((Array.range (n * j.size)).map fun i => zero[i % zero.size]!) ps.toList = some B) :
    (Instr.buildSlice t n ps).run P w = .ok (.slice (some ⟨w.heap.size, 0, none⟩) n n) { w with heap := w.heap.push (.cells B e (0, 0)) } := by
  unfold Instr.buildSlice
  simp only [Sem.run_bind, run_under hC hi, hD, Result.andThen_ok, run_size hC hj]
  rw [if_neg (by omega)]
  by_cases h0 : n * j.size = 0
  · rw [if_pos h0] at hzero
    subst hzero
    simp only [h0, if_true, Sem.run_bind, Sem.run_pure, Result.andThen_ok] at hB ⊢
    rw [hB]
    simp [newRow]
  · rw [if_neg h0] at hzero
    subst hzero
    simp only [h0, if_false, Sem.run_bind, Sem.run_pure, run_zero hC hj hzv, Result.andThen_ok]
    rw [hB]
    simp [newRow]

set_option maxHeartbeats 1000000 in
theorem buildSlice_sound (hC : CtxOk P C) (h : SInv Cm β s w) (ht : TmOk Cm β tm a.tmps) {o : Oper} {t : TypeId} {n : Nat} {ps : Array (Nat × Operand)} {mt : Bool} (ho : o.op = .buildSlice t n ps) (hop : buildSliceO C tm s mt t n ps.toList = some (v, s')) : OpVal P o a w (Post Cm β s w v s') := by
  unfold buildSliceO at hop
  split at hop
  · rename_i vs s1 hps
    obtain ⟨vs0, hv0, hfz⟩ := bind_some hps
    obtain ⟨k1, r1⟩ := partsE_rep hC ht hv0
    obtain ⟨Cm', h1, st, r2, c1, k2, hd⟩ := freezeP_sound h r1 hfz
    unfold buildSliceE at hop
    split at hop
    · rename_i e j he
      obtain ⟨i, hi, hD, hj⟩ := elemTI_some he
      split at hop
      · rename_i z hz
        split at hop
        · rename_i hle
          obtain ⟨hle, hzl⟩ := hle
          split at hop
          · rename_i rows hrows
            obtain ⟨zv, hzv, hzr⟩ := zero_row (Cm := Cm') (β := β) hz hzl n
            have hkeys : vs.map (·.1) = ((ps.map fun p => (p.1, a.eval p.2)).toList).map (·.1) := by rw [k2, k1]; simp
            have hvals : RepL Cm' β (vs.map (·.2)) (((ps.map fun p => (p.1, a.eval p.2)).toList).map (·.2)) := by simpa [Function.comp_def] using r2
            obtain ⟨zero, hzero⟩ : ∃ zero : Array Value, zero = if n * j.size = 0 then #[] else zv.cells := ⟨_, rfl⟩
            obtain ⟨B, hB, hrB, hrl, hlen⟩ := fillRows_sound hkeys hvals hd (rows := List.replicate n z.cells) (fun r hr => by rw [(List.mem_replicate.1 hr).2]; exact hzl) (hzr zero hzero) hrows
            simp only [List.length_replicate] at hlen
            have hfl := rows_flatten_length hrl
            have hBl := hrB.length
            simp only [Array.length_toList] at hBl
            have hrun := buildSlice_run (P := P) (w := w) hC hi hD hj hle hzv hzero hB
            split at hop
            · cases hop
              obtain ⟨Cm2, β2, p1, p2, p3⟩ := post_arr h1 (n := n) (cap := n) (sz := j.size) (w' := { w with heap := w.heap.push (.cells B e (0, 0)) }) (cells := rows.flatten) (by rw [hBl, ← Array.length_toList, List.take_length]; exact hrB) rfl rfl rfl rfl (Nat.le_refl _) (by rw [hfl, hlen]; exact Nat.le_refl _) (by rw [← hBl, hfl, hlen]; exact Nat.le_refl _)
              exact OpVal.mk (x := Instr.buildSlice t n (ps.map fun p => (p.1, a.eval p.2))) (by rw [execOp, ho]) hrun ⟨Cm2, β2, p1, st.trans p2, p3⟩
            · cases hop
              obtain ⟨Cm2, β2, p1, p2, p3⟩ := post_rows h1 (elem := e) (fr := (0, 0)) (cap := n) (clip := true) (w' := { w with heap := w.heap.push (.cells B e (0, 0)) }) (c := B) hrl (by rw [← hfl, hBl, ← Array.length_toList, List.take_length]; exact hrB) rfl rfl rfl rfl (by omega) (fun _ => hlen.symm)
              rw [hlen] at p3
              exact OpVal.mk (x := Instr.buildSlice t n (ps.map fun p => (p.1, a.eval p.2))) (by rw [execOp, ho]) hrun ⟨Cm2, β2, p1, st.trans p2, p3⟩
          · cases hop
        · cases hop
      · cases hop
    · cases hop
  · cases hop
end
end Go.Ev
