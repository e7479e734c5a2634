/- Operations: what they make of related states (1). -/
import Derived.Test.YtnnebeidpkaobaaGreatDoorEvMem
set_option linter.unusedVariables false
set_option linter.unusedSimpArgs false
set_option linter.unusedSectionVars false
namespace Go.Ev
open Go
set_option linter.unusedSectionVars false

structure CtxOk (P : Program) (C : Ctx) : Prop where
  ti : ∀ t i, C.ti t = some i → P.underlying t = some i.desc ∧ ∃ x, P.info? t = some x ∧ x.size = i.size ∧ x.bytes = i.bytes ∧ x.zero = i.zero
  glob : ∀ g, C.glob g = none
  fn : ∀ f fn, C.fn f = some fn → P.funcs[f]? = some fn ∧ fn.ntmps ≤ 4000 ∧ fn.name ≠ "runtime.NumGoroutine"
  orders : P.follows .mixedOrders = true
  /-- Structs and arrays that are held against each other. -/
  eq : ∀ t i, C.ti t = some i → ∀ ks, i.eqKs = some ks → ∀ (xs ys : List EV) (X Y : Array Value) (Cm : Com) (β : Bm) (b : Bool) (w : World), RepL Cm β xs X.toList → RepL Cm β ys Y.toList → cellsEq ks xs ys = some b →
    P.eqGuardType P.depth t = false ∧ (Op.equal t (.agg X) (.agg Y)).run P w = .ok b w

def Post (Cm : Com) (β : Bm) (s : St) (w : World) (v : EV) (s' : St) (V : Value) (w' : World) : Prop :=
  ∃ Cm' β', SInv Cm' β' s' w' ∧ Step Cm β s w Cm' β' s' w' ∧ Rep Cm' β' v V

/-- A computation comes to a value. -/
def Runs (P : Program) (x : Sem Value) (w : World) (R : Value → World → Prop) : Prop := ∃ V w', x.run P w = .ok V w' ∧ R V w'

section
variable {P : Program} {C : Ctx} (hC : CtxOk P C)
variable {Cm : Com} {β : Bm} {s : St} {w : World}

theorem post_pure (h : SInv Cm β s w) {v : EV} {V : Value} (r : Rep Cm β v V) : Post Cm β s w v s V w := ⟨Cm, β, h, .refl _ _ _ _, r⟩

theorem blk_some {b g : Nat} {k : Blk} (h : s.blk b g = some k) : s.h[b]? = some k ∧ k.gen = g := by
  unfold St.blk at h
  rw [lget_eq] at h
  split at h
  · rename_i k' hk
    split at h
    · rename_i hg; cases h; exact ⟨hk, by simpa using hg⟩
    · cases h
  · cases h

section ti
include hC
variable {t : TypeId} {i : TI} (h : C.ti t = some i)
include h
theorem run_under : (underlying t).run P w = .ok i.desc w := by
  have := (hC.ti t i h).1
  simp [underlying, this]
theorem run_info : ∃ x, (typeInfo t).run P w = .ok x w ∧ x.size = i.size ∧ x.bytes = i.bytes ∧ x.zero = i.zero := by
  obtain ⟨_, x, hx, h1, h2, h3⟩ := hC.ti t i h
  exact ⟨x, by simp [typeInfo, hx], h1, h2, h3⟩
theorem run_size : (sizeOf t).run P w = .ok i.size w := by
  obtain ⟨_, x, hx, h1, h2, h3⟩ := hC.ti t i h
  simp [sizeOf, typeInfo, hx, h1]
theorem run_zero {z : Value} (hz : i.zero = some z) : (zeroValue t).run P w = .ok z w := by
  obtain ⟨_, x, hx, h1, h2, h3⟩ := hC.ti t i h
  simp [zeroValue, typeInfo, hx, h3, hz]
theorem run_isAgg : (isAgg t).run P w = .ok (isAggD i.desc) w := by
  have := (hC.ti t i h).1
  unfold isAgg
  simp only [Sem.run_bind, run_under hC h, Result.andThen_ok]
  cases i.desc <;> rfl
end ti

theorem ofV_rep : ∀ {c : Value} {v : EV}, ofV c = some v → Rep Cm β v c := by
  intro c v h
  unfold ofV at h
  split at h <;> first
    | (cases h; first | exact .bool _ | exact .int _ _ | exact .str _ | exact .nilptr | exact .nilsl | exact .nilfn | exact .niliface; done)
    | (split at h
       · rename_i hz
         first
           | (obtain ⟨h1, h2⟩ := hz
              obtain rfl := Array.eq_empty_of_size_eq_zero h1
              obtain rfl := Array.eq_empty_of_size_eq_zero h2
              cases h; exact .fn (A := #[]) (B := #[]) .nil .nil)
           | (obtain rfl := Array.eq_empty_of_size_eq_zero hz
              cases h; exact .tup (A := #[]) .nil)
       · cases h)
    | (cases h)

theorem ofVs_rep : ∀ {cs : List Value} {vs : List EV}, ofVs cs = some vs → RepL Cm β vs cs := by
  intro cs
  induction cs with
  | nil => intro vs h; simp [ofVs] at h; subst h; exact .nil
  | cons c cs ih =>
    intro vs h
    simp only [ofVs] at h
    split at h
    · rename_i a as ha has; cases h; exact .cons (ofV_rep ha) (ih has)
    · cases h

theorem ofZ_rep {c : Value} {v : EV} (h : ofZ c = some v) : Rep Cm β v c := by
  unfold ofZ at h
  split at h
  · simp only [Option.map_eq_some_iff] at h
    obtain ⟨vs, hv, rfl⟩ := h
    exact .agg (ofVs_rep hv)
  · exact ofV_rep h

theorem Rep.cells {v : EV} {V : Value} (h : Rep Cm β v V) (hd : v.isDead = false) : RepL Cm β v.cells V.cells.toList := by
  cases h <;> first | (simp [EV.isDead] at hd; done) | (rename_i h; exact h) | (refine RepL.one ?_; first | exact .bool _ | exact .int _ _ | exact .str _ | exact .nilptr | exact .nilsl | exact .esl _ _ | exact .nilfn | exact .niliface | skip)
  all_goals first
    | (rename_i h1 h2 h3; exact .ptr h1 h2 h3)
    | (rename_i h1 h2 h3 h4; exact .cptr h1 h2 h3 h4)
    | (rename_i h1 h2 h3 h4 h5 h6 h7; exact .sl h1 h2 h3 h4 h5 h6 h7)
    | (rename_i h1 h2 h3 h4; exact .sref h1 h2 h3 h4)
    | (rename_i h1 h2; exact .fn h1 h2)
    | (rename_i h1; exact .iface h1)
    | (rename_i h1; exact .tup h1)

theorem ofZ_cells {c : Value} {v : EV} (h : ofZ c = some v) : RepL Cm β v.cells c.cells.toList := by
  refine (ofZ_rep h).cells ?_
  unfold ofZ at h
  split at h
  · simp only [Option.map_eq_some_iff] at h
    obtain ⟨vs, hv, rfl⟩ := h; rfl
  · unfold ofV at h; split at h <;> first | (cases h; rfl; done) | (split at h <;> cases h; rfl; done) | cases h

theorem evalO_rep (hC : CtxOk P C) {tm : Tm} {a : Act} (ht : TmOk Cm β tm a.tmps) {x : Operand} {v : EV} (h : evalO C tm x = some v) : Rep Cm β v (a.eval x) := by
  cases x with
  | tmp t => simp [evalO] at h; subst h; exact ht.at t
  | const c => exact ofV_rep h
  | global g => simp [evalO, hC.glob] at h
  | func f => simp [evalO] at h; subst h; exact .fn (A := #[]) (B := #[]) .nil .nil

theorem evalL_rep (hC : CtxOk P C) {tm : Tm} {a : Act} (ht : TmOk Cm β tm a.tmps) : ∀ {xs : List Operand} {vs : List EV}, evalL C tm xs = some vs → RepL Cm β vs (xs.map a.eval) := by
  intro xs
  induction xs with
  | nil => intro vs h; simp [evalL] at h; subst h; exact .nil
  | cons x xs ih =>
    intro vs h
    simp only [evalL] at h
    split at h
    · rename_i v vs' h1 h2; cases h; exact .cons (evalO_rep hC ht h1) (ih h2)
    · cases h

/-- A slice that was a reference: what its rows are in memory. -/
theorem chunk_flatten {α : Type} (sz : Nat) : ∀ (n : Nat) (l : List α), n * sz ≤ l.length → (chunk sz n l).flatten = l.take (n * sz)
  | 0, l, _ => by simp [chunk]
  | n + 1, l, h => by
    rw [Nat.add_mul, Nat.one_mul] at h ⊢
    rw [chunk, List.flatten_cons, chunk_flatten sz n _ (by simp; omega), Nat.add_comm, List.take_add]

theorem chunk_length {α : Type} (sz : Nat) : ∀ (n : Nat) (l : List α), (chunk sz n l).length = n
  | 0, l => rfl
  | n + 1, l => by simp [chunk, chunk_length sz n]

theorem chunk_rows {α : Type} (sz : Nat) : ∀ (n : Nat) (l : List α), n * sz ≤ l.length → ∀ r ∈ chunk sz n l, r.length = sz
  | 0, l, _, r, hr => by simp [chunk] at hr
  | n + 1, l, h, r, hr => by
    rw [Nat.add_mul, Nat.one_mul] at h
    simp only [chunk, List.mem_cons] at hr
    rcases hr with rfl | hr
    · simp; omega
    · exact chunk_rows sz n _ (by simp; omega) r hr

theorem refsL_take_le (l : List EV) (n : Nat) : refsL (l.take n) ≤ refsL l := by
  induction l generalizing n with
  | nil => simp
  | cons x xs ih => cases n with
    | zero => simp [refsL]
    | succ n => simp [refsL]; have := ih n; omega

theorem refsL_drop_le (l : List EV) (n : Nat) : refsL (l.drop n) ≤ refsL l := by
  induction l generalizing n with
  | nil => simp
  | cons x xs ih => cases n with
    | zero => simp
    | succ n => simp [refsL]; have := ih n; omega

theorem freezeV_sound (h : SInv Cm β s w) {v v' : EV} {s' : St} {V : Value} (hr : Rep Cm β v V) (hf : freezeV s v = some (v', s')) :
    v'.isDead = false ∧ ∃ Cm', SInv Cm' β s' w ∧ Step Cm β s w Cm' β s' w ∧ Rep Cm' β v' V ∧ CLe Cm Cm' ∧ s'.h.length = s.h.length := by
  cases v with
  | sref b g off n sz =>
    simp only [freezeV] at hf
    split at hf
    · rename_i k hk
      obtain ⟨hk, hg⟩ := blk_some hk
      split at hf
      · rename_i hle
        simp only [Option.some.injEq, Prod.mk.injEq] at hf
        obtain ⟨rfl, rfl⟩ := hf
        cases hr with
        | sref he hge hcap hv =>
          rename_i e A c
          have hok := h.blk b e k he hk
          obtain ⟨hA, _⟩ := hv (by rw [hok.gen, hg])
          rw [hA]
          obtain ⟨Cm', c', h1, h2, h3, h4, h5, h6⟩ := h.freeze he hk
          have hlen := hok.len
          have e1 : n * sz ≤ (k.cells.drop off).length := by simp; omega
          refine ⟨rfl, Cm', by rw [lset_eq]; exact h1, by rw [lset_eq]; exact h2, ?_, h6, by rw [lset_eq]; simp⟩
          have hrep : RepL Cm' β (chunk sz n (k.cells.drop off)).flatten ((c'.toList.drop (e.off + off)).take ((chunk sz n (k.cells.drop off)).length * sz)) := by
            rw [chunk_flatten sz n _ e1, chunk_length]
            have := (h5.drop off).take (n * sz)
            rw [List.drop_take, List.take_take, List.drop_drop] at this
            rw [show min (n * sz) (e.len - off) = n * sz by omega] at this
            exact this
          have hb : refsLL (chunk sz n (k.cells.drop off)) ≤ β.length := by
            rw [← refsL_flatten]; exact hrep.refs_le
          have hn := chunk_length sz n (k.cells.drop off)
          have := Rep.sl (Cm := Cm') (β := β) (clip := false) (cap := c) (sz := sz) (rows := chunk sz n (k.cells.drop off)) (blk := e.blk) (off := e.off + off) h3 (by rw [hn]; exact hcap) (by simp) (chunk_rows sz n _ e1) hrep (Nat.le_refl _) hb
          rw [hn] at this
          exact this
      · cases hf
    · cases hf
  | dead => simp [freezeV] at hf
  | _ =>
    simp only [freezeV, Option.some.injEq, Prod.mk.injEq] at hf
    obtain ⟨rfl, rfl⟩ := hf
    exact ⟨rfl, Cm, h, .refl _ _ _ _, hr, .refl _, rfl⟩

theorem freezeL_sound : ∀ {vs vs' : List EV} {s s' : St} {Cm : Com} {Vs : List Value}, SInv Cm β s w → RepL Cm β vs Vs → freezeL s vs = some (vs', s') →
    ∃ Cm', SInv Cm' β s' w ∧ Step Cm β s w Cm' β s' w ∧ RepL Cm' β vs' Vs ∧ CLe Cm Cm' ∧ s'.h.length = s.h.length := by
  intro vs
  induction vs with
  | nil => intro vs' s s' Cm Vs h hr hf; simp [freezeL] at hf; obtain ⟨rfl, rfl⟩ := hf; exact ⟨Cm, h, .refl _ _ _ _, hr, .refl _, rfl⟩
  | cons v vs ih =>
    intro vs' s s' Cm Vs h hr hf
    cases hr with
    | cons h1 h2 =>
      simp only [freezeL] at hf
      split at hf
      · rename_i v1 s1 hv1
        split at hf
        · rename_i vs1 s2 hvs
          cases hf
          obtain ⟨_, Cm1, i1, st1, r1, c1, l1⟩ := freezeV_sound h h1 hv1
          obtain ⟨Cm2, i2, st2, r2, c2, l2⟩ := ih i1 (h2.mono c1 (.refl _)) hvs
          exact ⟨Cm2, i2, st1.trans st2, .cons (r1.mono c2 (.refl _)) r2, c1.trans c2, l2.trans l1⟩
        · cases hf
      · cases hf

/- Reading and writing cells. -/

theorem readAt_sound (h : SInv Cm β s w) {a : EV} {V : Value} {n : Nat} {cs : List EV} (hr : Rep Cm β a V) (hf : readAt s a n = some cs) :
    ∃ blk off c elem fr, V = .pointer (some ⟨blk, off, none⟩) ∧ w.heap[blk]? = some (.cells c elem fr) ∧ cs.length = n ∧ RepL Cm β cs ((c.toList.drop off).take n) := by
  cases a with
  | ptr b g off =>
    simp only [readAt] at hf
    split at hf
    · rename_i k hk
      obtain ⟨hk, hg⟩ := blk_some hk
      split at hf
      · rename_i hle
        cases hf
        cases hr with
        | ptr he hge hv =>
          rename_i e A
          have hok := h.blk b e k he hk
          obtain rfl := hv (by rw [hok.gen, hg])
          obtain ⟨c, elem, fr, hm, hfin, hrep, _⟩ := hok.mem
          refine ⟨e.blk, e.off + off, c, elem, fr, rfl, hm, by simp; omega, ?_⟩
          have := (hrep.drop off).take n
          rw [List.drop_take, List.take_take, List.drop_drop] at this
          have hlen := hok.len
          rw [show min n (e.len - off) = n by omega] at this
          exact this
      · cases hf
    · cases hf
  | cptr m cs' =>
    simp only [readAt] at hf
    split at hf
    · rename_i hle
      cases hf
      cases hr with
      | cptr hc hl hm hb =>
        rename_i blk off c
        obtain ⟨elem, fr, hmem⟩ := h.com _ _ hc
        refine ⟨blk, off, c, elem, fr, rfl, hmem, by simp; omega, ?_⟩
        have := hl.take n
        rw [List.take_take, show min n cs'.length = n by omega] at this
        exact this
    · cases hf
  | _ => simp [readAt] at hf

theorem loadE_sound (hC : CtxOk P C) (h : SInv Cm β s w) {t : TypeId} {a : EV} {V : Value} {v : EV} (hr : Rep Cm β a V) (hf : loadE C t a s = some v) :
    ∃ A U, V = .pointer (some A) ∧ (loadVar t A).run P w = .ok U w ∧ Rep Cm β v U := by
  unfold loadE at hf
  split at hf
  · rename_i i hi
    split at hf
    · rename_i hagg
      simp only [Option.map_eq_some_iff] at hf
      obtain ⟨cs, hcs, rfl⟩ := hf
      obtain ⟨blk, off, c, elem, fr, rfl, hm, hl, hrep⟩ := readAt_sound h hr hcs
      have hlen := hrep.length
      refine ⟨_, .agg (c.extract off (off + i.size)), rfl, ?_, ?_⟩
      · simp only [loadVar, Sem.run_bind, run_isAgg hC hi, Result.andThen_ok, hagg, if_true, run_size hC hi]
        by_cases h0 : i.size = 0
        · simp [h0, loadCells, loadCellsFrom]; exact Nat.min_le_left _ _
        · rw [run_loadCells hm (by simp at hlen; omega)]
          rfl
      · refine .agg ?_
        rw [Array.toList_extract, List.extract_eq_take_drop]
        simpa using hrep
    · rename_i hagg
      split at hf
      · rename_i x hx
        cases hf
        obtain ⟨blk, off, c, elem, fr, rfl, hm, hl, hrep⟩ := readAt_sound h hr hx
        generalize hL : (c.toList.drop off).take 1 = L at hrep
        cases hrep with
        | cons h1 h2 =>
          rename_i U Us
          have hU : c[off]? = some U := by
            have : ((c.toList.drop off).take 1)[0]? = some U := by rw [hL]; rfl
            rw [List.getElem?_take, if_pos (by omega), List.getElem?_drop] at this
            simpa using this
          refine ⟨_, U, rfl, ?_, h1⟩
          simp only [loadVar, Sem.run_bind, run_isAgg hC hi, Result.andThen_ok, hagg]
          simp only [Bool.false_eq_true, if_false, run_load, cell_of hm, hU]
      · cases hf
  · cases hf

/-- Cells written into a block: the same in memory. -/
theorem writeE_sound (h : SInv Cm β s w) {b g off : Nat} {cs : List EV} {Cs : List Value} {s' : St} {e : Ent} (hw : writeE s b g off cs = some s') (hr : RepL Cm β cs Cs) (he : β[b]? = some (some e)) :
    g = e.gen ∧ ∃ c elem, w.heap[e.blk]? = some (.cells c elem (0, 0)) ∧ e.off + off + Cs.length ≤ c.size ∧ off + Cs.length ≤ e.len ∧ (∀ v ∈ Cs, v.oneCell' = true) ∧
      ∃ β', SInv Cm β' s' (putBlk w e.blk (.cells (lsetN c.toList (e.off + off) Cs).toArray elem (0, 0))) ∧ Step Cm β s w Cm β' s' (putBlk w e.blk (.cells (lsetN c.toList (e.off + off) Cs).toArray elem (0, 0))) ∧ BLe β β' := by
  unfold writeE at hw
  split at hw
  · rename_i k hk
    obtain ⟨hk, hg⟩ := blk_some hk
    split at hw
    · cases hw
    · rename_i hfz
      split at hw
      · rename_i hle
        split at hw
        · rename_i hcells
          cases hw
          have hok := h.blk b e k he hk
          obtain ⟨c, elem, fr, hm, hfin, hrep, _, hfr⟩ := hok.mem
          obtain rfl := hfr (by simpa using hfz)
          have hlen := hok.len; have hfn := hok.fin; have hl := hr.length
          simp only [Bool.and_eq_true] at hcells
          refine ⟨by rw [hok.gen, hg], c, elem, hm, by omega, by omega, ?_, ?_⟩
          · intro v hv
            obtain ⟨i, hi⟩ := List.getElem?_of_mem hv
            have hic : i < cs.length := by have := (List.getElem?_eq_some_iff.1 hi).1; omega
            obtain ⟨V, hV, hrV⟩ := hr.get (List.getElem?_eq_getElem hic)
            rw [hi] at hV; cases hV
            exact hrV.oneCell (List.all_eq_true.1 hcells.1.1 _ (List.getElem_mem hic))
          · have hkf : k.frz = false := by simpa using hfz
            have hb : b < s.h.length := (List.getElem?_eq_some_iff.1 hk).1
            have hE : ((lsetN c.toList (e.off + off) Cs).drop e.off).take e.len = lsetN ((c.toList.drop e.off).take e.len) off Cs := by
              refine List.ext_getElem? fun i => ?_
              have e1 : ((c.toList.drop e.off).take e.len).length = e.len := by simp; omega
              rw [lsetN_get _ _ _ _ (by rw [e1]; omega)]
              simp only [List.getElem?_take, List.getElem?_drop]
              rw [lsetN_get _ _ _ _ (by simp; omega)]
              by_cases h1 : i < e.len
              · simp only [h1, if_true]
                by_cases h2 : off ≤ i ∧ i < off + Cs.length
                · rw [if_pos (by omega), if_pos h2]; congr 1; omega
                · rw [if_neg (by omega), if_neg h2]
              · simp only [h1, if_false]
                rw [if_neg (by omega)]
            have key := h.turn (e' := e) (k' := { k with cells := lsetN k.cells off cs }) he hk hkf hkf (keep' := if refsL cs ≤ b + 1 then s.keep else max s.keep (refsL cs))
              (by split <;> omega) (by have := h.keep; have := hr.refs_le; have := h.len; split <;> omega) (.inl rfl) hok.gen hok.arr (by simpa [length_lsetN] using hok.len) hok.fin
              (by
                have h1 := hok.refs
                have h2 : refsL (lsetN k.cells off cs) ≤ max (refsL k.cells) (refsL cs) := by
                  rw [lsetN_eq _ _ _ hle, refsL_append, refsL_append]
                  have := refsL_take_le k.cells off; have := refsL_drop_le k.cells (off + cs.length)
                  omega
                simp only
                split <;> omega)
              (w' := putBlk w e.blk (.cells (lsetN c.toList (e.off + off) Cs).toArray elem (0, 0))) (putBlk_same (heap_lt hm)) (by simpa [length_lsetN] using hfin)
              (by rw [show (lsetN c.toList (e.off + off) Cs).toArray.toList = lsetN c.toList (e.off + off) Cs by simp, hE]; exact hrep.setN off hr)
              (.inl rfl) (fun x hx hne => putBlk_ne (fun z => hne z.symm)) (by simp) rfl rfl rfl
            obtain ⟨k1, k2, k3, _⟩ := key
            rw [lset_eq]
            exact ⟨_, k1, k2, k3⟩
        · cases hw
      · cases hw
  · cases hw
end
end Go.Ev
