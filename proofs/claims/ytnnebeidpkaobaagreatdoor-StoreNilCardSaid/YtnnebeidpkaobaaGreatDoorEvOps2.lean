/- Operations: what they make of related states (2). -/
import Derived.Test.YtnnebeidpkaobaaGreatDoorEvOps1
set_option linter.unusedVariables false
set_option linter.unusedSimpArgs false
set_option linter.unusedSectionVars false
namespace Go.Ev
open Go
set_option linter.unusedSectionVars false

/-- An operation comes to a value, and to a state. -/
def OpVal (P : Program) (o : Oper) (a : Act) (w : World) (R : Value → World → Prop) : Prop :=
  ∃ n V w', (execOp a.eval o).run P w = .ok n w' ∧ (n = .value V ∨ (n = .skip ∧ V = undef)) ∧ R V w'

theorem OpVal.wp {P : Program} {o : Oper} {a : Act} {w : World} {R : Value → World → Prop} {next : Act → World → Prop} {Q : Exit → Act → World → Prop} (h : OpVal P o a w R) (hk : ∀ V w', R V w' → next (a.put o.dst V) w') : o.wp P a w next Q := by
  obtain ⟨n, V, w', hr, hn, hR⟩ := h
  unfold Oper.wp
  rw [hr]
  rcases hn with rfl | ⟨rfl, rfl⟩
  · exact hk _ _ hR
  · exact hk _ _ hR

section
variable {P : Program} {C : Ctx} {Cm : Com} {β : Bm} {s s' : St} {w : World} {tm : Tm} {a : Act} {v : EV}

theorem OpVal.mk {o : Oper} {R : Value → World → Prop} {x : Sem Value} (ho : execOp a.eval o = (do let v ← x; pure (.value v))) {V : Value} {w' : World} (h : x.run P w = .ok V w') (hR : R V w') : OpVal P o a w R :=
  ⟨.value V, V, w', by rw [ho]; simp [h], .inl rfl, hR⟩

theorem bind_some {α β : Type} {x : Option α} {f : α → Option β} {b : β} (h : x.bind f = some b) : ∃ a, x = some a ∧ f a = some b := Option.bind_eq_some_iff.1 h

theorem just_some {x : Option EV} {s s' : St} {v : EV} (h : just s x = some (v, s')) : x = some v ∧ s' = s := by
  unfold just at h; split at h
  · cases h; exact ⟨rfl, rfl⟩
  · cases h

section new
variable (hC : CtxOk P C) (h : SInv Cm β s w)
include h

theorem post_newBlk {arr : Bool} {cells : List EV} {c : Array Value} {elem : TypeId} {w' : World} (hh : w'.heap = w.heap.push (.cells c elem (0, 0))) (ho : w'.os = w.os) (ht : w'.tape = w.tape)
    (hu : w'.output = w.output) (hr : RepL Cm β cells (c.toList.take cells.length)) :
    ∃ β', SInv Cm β' (newBlk s arr cells).2 w' ∧ Step Cm β s w Cm β' (newBlk s arr cells).2 w' ∧ β'[s.h.length]? = some (some ⟨w.heap.size, 0, c.size, 0, arr, cells.length⟩) := by
  obtain ⟨β', h1, h2, h3, _⟩ := h.new (arr := arr) hh ho ht hu hr
  exact ⟨β', h1, h2, h3⟩

theorem post_var {cells : List EV} {c : Array Value} {elem : TypeId} (hr : RepL Cm β cells c.toList) :
    Post Cm β s w (.ptr s.h.length 0 0) (newBlk s false cells).2 (.pointer (some ⟨w.heap.size, 0, none⟩)) { w with heap := w.heap.push (.cells c elem (0, 0)) } := by
  have hl := hr.length
  obtain ⟨β', h1, h2, h3⟩ := post_newBlk h (arr := false) (w' := { w with heap := w.heap.push (.cells c elem (0, 0)) }) rfl rfl rfl rfl (by rw [hl, List.take_length]; exact hr)
  exact ⟨Cm, β', h1, h2, .ptr h3 (Nat.le_refl _) (fun _ => rfl)⟩
end new

theorem alloc_sound (hC : CtxOk P C) (h : SInv Cm β s w) {o : Oper} {t : TypeId} (ho : o.op = .alloc t) (hop : allocE C s t = some (v, s')) : OpVal P o a w (Post Cm β s w v s') := by
  unfold allocE at hop
  split at hop
  · rename_i z hz
    obtain ⟨i, hi, hz⟩ := bind_some hz
    obtain ⟨zv, hzv, hz⟩ := bind_some hz
    cases hop
    refine OpVal.mk (x := Instr.alloc t true (.tuple #[])) (by rw [execOp, ho]) (V := .pointer (some ⟨w.heap.size, 0, none⟩)) (w' := { w with heap := w.heap.push (.cells zv.cells t (0, 0)) }) ?_ (post_var h (ofZ_cells hz))
    simp [Instr.alloc, run_zero hC hi hzv, newVar, newRow]
  · cases hop

theorem box_sound (hC : CtxOk P C) (h : SInv Cm β s w) (ht : TmOk Cm β tm a.tmps) {o : Oper} {t : TypeId} {x : Operand} (ho : o.op = .box t x) (hop : boxE C tm s t x = some (v, s')) : OpVal P o a w (Post Cm β s w v s') := by
  unfold boxE at hop
  split at hop
  · rename_i i u s1 hi hx
    obtain ⟨u0, hu0, hfr⟩ := bind_some hx
    split at hop
    · cases hop
      obtain ⟨hd, Cm', h1, st, r, c1, hlen⟩ := freezeV_sound h (evalO_rep hC ht hu0) hfr
      obtain ⟨Cm2, β2, p1, p2, p3⟩ := post_var h1 (elem := t) (r.cells hd)
      refine OpVal.mk (x := Instr.box t (a.eval x)) (by rw [execOp, ho]) (V := .pointer (some ⟨w.heap.size, 0, none⟩)) (w' := { w with heap := w.heap.push (.cells (a.eval x).cells t (0, 0)) }) ?_ ⟨Cm2, β2, p1, st.trans p2, p3⟩
      simp [Instr.box, newVar, newRow]
    · cases hop
  · cases hop

theorem load_sound (hC : CtxOk P C) (h : SInv Cm β s w) (ht : TmOk Cm β tm a.tmps) {o : Oper} {t : TypeId} {x : Operand} (ho : o.op = .load t x) (hop : loadO C tm s t x = some (v, s')) : OpVal P o a w (Post Cm β s w v s') := by
  obtain ⟨hx, rfl⟩ := just_some hop
  obtain ⟨p, hp, hl⟩ := bind_some hx
  obtain ⟨A, U, hA, hrun, hr⟩ := loadE_sound hC h (evalO_rep hC ht hp) hl
  refine OpVal.mk (x := Instr.loadAt t (a.eval x)) (by rw [execOp, ho]) (V := U) (w' := w) ?_ (post_pure h hr)
  simp [Instr.loadAt, hA, Instr.sureAddr, hrun]

theorem store_sound (hC : CtxOk P C) (h : SInv Cm β s w) (ht : TmOk Cm β tm a.tmps) {o : Oper} {t : TypeId} {x y : Operand} (ho : o.op = .store t x y) (hop : storeO C tm s t x y = some (v, s')) : OpVal P o a w (Post Cm β s w v s') := by
  unfold storeO at hop
  split at hop
  · rename_i p u hp hu
    split at hop
    · rename_i s1 hs1
      cases hop
      unfold storeE at hs1
      split at hs1
      · rename_i i b g off hi
        split at hs1
        · rename_i u1 s2 hfz
          split at hs1
          · rename_i hlen
            have rp := evalO_rep hC ht hp
            have ru := evalO_rep hC ht hu
            have key : u1.isDead = false ∧ ∃ Cm', SInv Cm' β s2 w ∧ Step Cm β s w Cm' β s2 w ∧ Rep Cm' β u1 (a.eval y) ∧ CLe Cm Cm' := by
              split at hfz
              · split at hfz
                · cases hfz
                · rename_i hnd
                  cases hfz
                  refine ⟨?_, Cm, h, .refl _ _ _ _, ru, .refl _⟩
                  cases u <;> first | rfl | exact (hnd rfl).elim
              · obtain ⟨k0, k1, k2, k3, k4, k5, _⟩ := freezeV_sound h ru hfz
                exact ⟨k0, k1, k2, k3, k4, k5⟩
            obtain ⟨hd, Cm', h1, st, r, c1⟩ := key
            have rp' := rp.mono c1 (.refl _)
            generalize hV : a.eval x = V at rp'
            cases rp' with
            | ptr he hge hv =>
              rename_i e A
              obtain ⟨hg, c, elem, hm, hb1, hb2, hone, β', k1, k2, k3⟩ := writeE_sound h1 hs1 (r.cells hd) he
              obtain rfl := hv hg
              refine ⟨.skip, undef, _, ?_, .inr ⟨rfl, rfl⟩, Cm', β', k1, st.trans k2, .undef⟩
              have hcl := (r.cells hd).length
              simp only [Array.length_toList] at hcl
              have hb3 : e.off + off + (a.eval y).cells.size ≤ c.size := by simpa using hb1
              simp only [execOp, ho, hV, Instr.storeAt, Instr.sureAddr, Sem.run_bind, Sem.run_pure, Result.andThen_ok, storeVar, run_size hC hi]
              rw [if_neg (by omega)]
              have hsc := run_storeCells (P := P) (elem := elem) (fr := (0, 0)) (blk := e.blk) (off := e.off + off) rfl (a.eval y).cells.toList 0 w c hm (by simpa using hb3) hone
              rw [hsc]
              simp
          · cases hs1
        · cases hs1
      · cases hs1
    · cases hop
  · cases hop

theorem addE_sound {x y : EV} {n : Nat} {V : Value} (hr : Rep Cm β x V) (h : addE x n = some y) : ∃ A, V = .pointer (some A) ∧ Rep Cm β y (.pointer (some (A.add n))) := by
  cases x with
  | ptr b g off =>
    simp only [addE, Option.some.injEq] at h; subst h
    cases hr with
    | ptr he hge hv =>
      refine ⟨_, rfl, .ptr he hge fun e => ?_⟩
      rw [hv e, Addr.add_none, Nat.add_assoc]
  | cptr m cs =>
    simp only [addE] at h
    split at h
    · rename_i hle
      cases h
      cases hr with
      | cptr hc hl hm hb =>
        rename_i blk off c
        refine ⟨_, rfl, ?_⟩
        rw [Addr.add_none]
        refine .cptr hc ?_ (Nat.le_trans (refsL_drop_le _ _) hm) hb
        have := hl.drop n
        rw [List.drop_take, List.drop_drop] at this
        simpa using this
    · cases h
  | _ => simp [addE] at h

theorem fieldOf_some {t : TypeId} {k off : Nat} {j : TI} (h : fieldOf C t k = some (off, j)) : ∃ i fs fd, C.ti t = some i ∧ i.desc = .struct fs ∧ fs[k]? = some fd ∧ C.ti fd.type = some j ∧ fd.offset = off := by
  unfold fieldOf at h
  split at h
  · rename_i i hi
    split at h
    · rename_i fs hd
      split at h
      · rename_i fd hfd
        simp only [Option.map_eq_some_iff] at h
        obtain ⟨j', hj, he⟩ := h
        cases he
        exact ⟨i, fs, fd, hi, hd, by simpa using hfd, hj, rfl⟩
      · cases h
    · cases h
  · cases h

theorem fieldAddr_sound (hC : CtxOk P C) (h : SInv Cm β s w) (ht : TmOk Cm β tm a.tmps) {o : Oper} {t : TypeId} {x : Operand} {k : Nat} (ho : o.op = .fieldAddr t x k)
    (hop : just s ((evalO C tm x).bind fun x => fieldAddrE C t x k) = some (v, s')) : OpVal P o a w (Post Cm β s w v s') := by
  obtain ⟨hx, rfl⟩ := just_some hop
  obtain ⟨p, hp, hl⟩ := bind_some hx
  unfold fieldAddrE at hl
  split at hl
  · rename_i off j hf
    obtain ⟨i, fs, fd, hi, hd, hfd, hj, rfl⟩ := fieldOf_some hf
    split at hl
    · cases hl
    · rename_i hnz
      obtain ⟨A, hA, hr⟩ := addE_sound (evalO_rep hC ht hp) hl
      refine OpVal.mk (x := Instr.fieldAt t (a.eval x) k) (by rw [execOp, ho]) (V := .pointer (some (A.add fd.offset))) (w' := w) ?_ (post_pure h hr)
      simp [Instr.fieldAt, run_under hC hi, hd, hfd, hA, Instr.sureAddr, fieldPlace, run_size hC hj, hnz]
  · cases hl

theorem partE_sound (hC : CtxOk P C) {t : TypeId} {j : TI} (hj : C.ti t = some j) {cs : List EV} {A : Array Value} {off : Nat} (hr : RepL Cm β cs A.toList) (hp : partE j cs off = some v) : ∃ V, (part t A off).run P w = .ok V w ∧ Rep Cm β v V := by
  unfold partE at hp
  have hl := hr.length
  simp only [Array.length_toList] at hl
  split at hp
  · rename_i hagg
    split at hp
    · rename_i hle
      cases hp
      refine ⟨.agg (A.extract off (off + j.size)), ?_, .agg ?_⟩
      · simp [part, run_isAgg hC hj, hagg, run_size hC hj]
      · rw [Array.toList_extract, List.extract_eq_take_drop]
        simpa using (hr.drop off).take j.size
    · cases hp
  · rename_i hagg
    rw [lget_eq] at hp
    obtain ⟨V, hV, hrv⟩ := hr.get hp
    rw [Array.getElem?_toList] at hV
    exact ⟨V, by simp [part, run_isAgg hC hj, hagg, hV], hrv⟩

theorem field_sound (hC : CtxOk P C) (h : SInv Cm β s w) (ht : TmOk Cm β tm a.tmps) {o : Oper} {t : TypeId} {x : Operand} {k : Nat} (ho : o.op = .field t x k)
    (hop : just s ((evalO C tm x).bind fun x => fieldE C t x k) = some (v, s')) : OpVal P o a w (Post Cm β s w v s') := by
  obtain ⟨hx, rfl⟩ := just_some hop
  obtain ⟨p, hp, hl⟩ := bind_some hx
  unfold fieldE at hl
  split at hl
  · rename_i off j cs hf
    obtain ⟨i, fs, fd, hi, hd, hfd, hj, rfl⟩ := fieldOf_some hf
    have hr := evalO_rep hC ht hp
    generalize hV : a.eval x = V at hr
    cases hr with
    | agg hL =>
      rename_i A
      obtain ⟨U, hU, hru⟩ := partE_sound hC (w := w) hj hL hl
      refine OpVal.mk (x := Instr.field t (a.eval x) k) (by rw [execOp, ho]) (V := U) (w' := w) ?_ (post_pure h hru)
      simp [Instr.field, run_under hC hi, hd, hfd, hV, asAgg, hU]
  · cases hl

theorem asIndex_some {i : EV} {n k : Nat} (h : asIndex i n = some k) : ∃ kk m, i = .int kk m ∧ 0 ≤ m ∧ m < n ∧ m.toNat = k := by
  unfold asIndex at h
  split at h
  · split at h
    · rename_i hh; cases h; exact ⟨_, _, rfl, hh.1, hh.2, rfl⟩
    · cases h
  · cases h

theorem boundE_some {i : EV} {n k : Nat} (h : boundE i n = some k) : ∃ kk m, i = .int kk m ∧ 0 ≤ m ∧ m ≤ n ∧ m.toNat = k := by
  unfold boundE at h
  split at h
  · split at h
    · rename_i hh; cases h; exact ⟨_, _, rfl, hh.1, hh.2, rfl⟩
    · cases h
  · cases h

theorem rep_int {k : IntKind} {n : Int} {V : Value} (h : Rep Cm β (.int k n) V) : V = .int k n := by cases h; rfl

theorem rows_get {sz : Nat} {r : List EV} : ∀ {rows : List (List EV)} {k : Nat}, (∀ r ∈ rows, r.length = sz) → rows[k]? = some r → (rows.flatten.drop (k * sz)).take sz = r
  | [], k, _, h => by simp at h
  | r0 :: rs, 0, hrows, h => by
    simp at h; subst h
    have := hrows r0 (by simp)
    simp [← this]
  | r0 :: rs, k + 1, hrows, h => by
    have hr0 : r0.length = sz := hrows r0 (by simp)
    have := rows_get (rows := rs) (k := k) (fun r hr => hrows r (by simp [hr])) (by simpa using h)
    rw [← this, List.flatten_cons, Nat.add_mul, Nat.one_mul, List.drop_append, List.drop_of_length_le (by omega), List.nil_append]
    congr 2
    omega

theorem indexAddr_sound (hC : CtxOk P C) (h : SInv Cm β s w) (ht : TmOk Cm β tm a.tmps) {o : Oper} {t : TypeId} {x y : Operand} (ho : o.op = .indexAddr t x y) (hop : indexAddrO C tm s t x y = some (v, s')) : OpVal P o a w (Post Cm β s w v s') := by
  unfold indexAddrO at hop
  split at hop
  · rename_i p q hp hq
    obtain ⟨hx, rfl⟩ := just_some hop
    have rp := evalO_rep hC ht hp
    have rq := evalO_rep hC ht hq
    unfold indexAddrE at hx
    split at hx
    · rename_i i hi
      split at hx
      · rename_i len e hd
        split at hx
        · rename_i k j hk hj
          obtain ⟨kk, m, rfl, hm0, hmn, rfl⟩ := asIndex_some hk
          obtain ⟨A, hA, hr⟩ := addE_sound rp hx
          have hq := rep_int rq
          refine OpVal.mk (x := Instr.indexAt t (a.eval x) (a.eval y)) (by rw [execOp, ho]) (V := .pointer (some (A.add (m.toNat * j.size)))) (w' := w) ?_ (post_pure h hr)
          simp [Instr.indexAt, hq, asIntOf, run_under hC hi, hd, hA, Instr.sureAddr, run_size hC hj, hm0, hmn]
        · cases hx
      · rename_i e hd
        split at hx
        · rename_i j hj
          split at hx
          · rename_i hsz
            split at hx
            · rename_i m clip sz rows
              split at hx
              · rename_i k hk
                obtain ⟨kk, n, rfl, hm0, hmn, rfl⟩ := asIndex_some hk
                have hq := rep_int rq
                simp only [Option.map_eq_some_iff, lget_eq] at hx
                obtain ⟨r, hr, rfl⟩ := hx
                generalize hV : a.eval x = V at rp
                cases rp with
                | sl hc hcap hclip hrows hrep hm hb =>
                  rename_i blk off cap c
                  have hsz' : sz = j.size := by simpa [EV.szIs] using hsz
                  subst hsz'
                  refine OpVal.mk (x := Instr.indexAt t (a.eval x) (a.eval y)) (by rw [execOp, ho]) (V := .pointer (some ⟨blk, off + n.toNat * j.size, none⟩)) (w' := w) ?_ (post_pure h ?_)
                  · simp [Instr.indexAt, hq, hV, asIntOf, run_under hC hi, hd, run_size hC hj, hm0, hmn, Addr.add_none]
                  · have hlt : n.toNat < rows.length := by omega
                    have hrl : r.length = j.size := hrows r (List.mem_of_getElem? hr)
                    have e1 := rows_get hrows hr
                    have hrep' := (hrep.drop (n.toNat * j.size)).take j.size
                    rw [e1, List.drop_take, List.take_take, List.drop_drop] at hrep'
                    have hmul : n.toNat * j.size + j.size ≤ rows.length * j.size := by
                      have := Nat.mul_le_mul_right j.size (show n.toNat + 1 ≤ rows.length by omega)
                      rw [Nat.add_mul, Nat.one_mul] at this; exact this
                    rw [show min j.size (rows.length * j.size - n.toNat * j.size) = j.size by omega] at hrep'
                    refine .cptr hc (by rw [hrl]; exact hrep') ?_ hb
                    refine Nat.le_trans ?_ hm
                    rw [← refsL_flatten, ← e1]
                    exact Nat.le_trans (refsL_take_le _ _) (refsL_drop_le _ _)
              · cases hx
            · rename_i b g off n sz
              simp only [Option.map_eq_some_iff] at hx
              obtain ⟨k, hk, rfl⟩ := hx
              obtain ⟨kk, m, rfl, hm0, hmn, rfl⟩ := asIndex_some hk
              have hq := rep_int rq
              have hsz' : sz = j.size := by simpa [EV.szIs] using hsz
              subst hsz'
              generalize hV : a.eval x = V at rp
              cases rp with
              | sref he hge hcap hv =>
                rename_i e' A c
                refine OpVal.mk (x := Instr.indexAt t (a.eval x) (a.eval y)) (by rw [execOp, ho]) (V := .pointer (some (A.add (m.toNat * j.size)))) (w' := w) ?_ (post_pure h (.ptr he hge fun e => ?_))
                · simp [Instr.indexAt, hq, hV, asIntOf, run_under hC hi, hd, run_size hC hj, hm0, hmn]
                · rw [(hv e).1, Addr.add_none, Nat.add_assoc]
            · cases hx
          · cases hx
        · cases hx
      · cases hx
    · cases hx
  · cases hop

theorem index_sound (hC : CtxOk P C) (h : SInv Cm β s w) (ht : TmOk Cm β tm a.tmps) {o : Oper} {t : TypeId} {x y : Operand} (ho : o.op = .index t x y) (hop : indexO C tm s t x y = some (v, s')) : OpVal P o a w (Post Cm β s w v s') := by
  unfold indexO at hop
  split at hop
  · rename_i p q hp hq
    obtain ⟨hx, rfl⟩ := just_some hop
    have rp := evalO_rep hC ht hp
    have rq := evalO_rep hC ht hq
    unfold indexE at hx
    split at hx
    · rename_i i cs hi
      split at hx
      · rename_i len e hd
        split at hx
        · rename_i k j hk hj
          obtain ⟨kk, m, rfl, hm0, hmn, rfl⟩ := asIndex_some hk
          have hq := rep_int rq
          generalize hV : a.eval x = V at rp
          cases rp with
          | agg hL =>
            obtain ⟨U, hU, hru⟩ := partE_sound hC (w := w) hj hL hx
            refine OpVal.mk (x := Instr.index t (a.eval x) (a.eval y)) (by rw [execOp, ho]) (V := U) (w' := w) ?_ (post_pure h hru)
            simp [Instr.index, hq, hV, asIntOf, run_under hC hi, hd, run_size hC hj, hm0, hmn, hU]
        · cases hx
      · cases hx
    · rename_i i st hi
      split at hx
      · rename_i hd
        split at hx
        · rename_i k hk
          obtain ⟨kk, m, rfl, hm0, hmn, rfl⟩ := asIndex_some hk
          have hq := rep_int rq
          simp only [Option.map_eq_some_iff] at hx
          obtain ⟨b, hb, rfl⟩ := hx
          generalize hV : a.eval x = V at rp
          cases rp with
          | str =>
            refine OpVal.mk (x := Instr.index t (a.eval x) (a.eval y)) (by rw [execOp, ho]) (V := .int .u8 b.toNat) (w' := w) ?_ (post_pure h (.int _ _))
            have hb' : st[m.toNat]? = some b := by
              rw [Array.getElem?_toList] at hb
              have hlt := (Array.getElem?_eq_some_iff.1 hb).1
              have : m.toNat < st.size := hlt
              rw [getElem?_pos st m.toNat this]
              rw [Array.getElem?_eq_getElem hlt] at hb
              exact hb
            simp [Instr.index, hq, hV, asIntOf, run_under hC hi, hd, hm0, hb']
        · cases hx
      · cases hx
    · cases hx
  · cases hop
end
end Go.Ev
