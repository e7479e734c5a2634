/- Operations: what they make of related states (3). -/
import Derived.Test.YtnnebeidpkaobaaGreatDoorEvOps2
set_option linter.unusedVariables false
set_option linter.unusedSimpArgs false
set_option linter.unusedSectionVars false
namespace Go.Ev
open Go
set_option linter.unusedSectionVars false

section
variable {P : Program} {C : Ctx} {Cm : Com} {β : Bm} {s s' : St} {w : World} {tm : Tm} {a : Act} {v : EV}

theorem move_sound (hC : CtxOk P C) (h : SInv Cm β s w) (ht : TmOk Cm β tm a.tmps) {o : Oper} {x : Operand} (ho : o.op = .move x ∨ o.op = .assign x) (hop : just s (evalO C tm x) = some (v, s')) : OpVal P o a w (Post Cm β s w v s') := by
  obtain ⟨hx, rfl⟩ := just_some hop
  refine ⟨.value (a.eval x), a.eval x, w, ?_, .inl rfl, post_pure h (evalO_rep hC ht hx)⟩
  rcases ho with ho | ho <;> simp [execOp, ho]

theorem pick_sound (hC : CtxOk P C) (h : SInv Cm β s w) (ht : TmOk Cm β tm a.tmps) {o : Oper} {c x y : Operand} (ho : o.op = .pick c x y) (hop : pickE C tm s c x y = some (v, s')) : OpVal P o a w (Post Cm β s w v s') := by
  unfold pickE at hop
  split at hop
  · rename_i hc
    obtain ⟨hx, rfl⟩ := just_some hop
    have rc := evalO_rep hC ht hc
    generalize hV : a.eval c = V at rc
    cases rc
    exact ⟨.value (a.eval x), a.eval x, w, by simp [execOp, ho, hV, asBool], .inl rfl, post_pure h (evalO_rep hC ht hx)⟩
  · rename_i hc
    obtain ⟨hx, rfl⟩ := just_some hop
    have rc := evalO_rep hC ht hc
    generalize hV : a.eval c = V at rc
    cases rc
    exact ⟨.value (a.eval y), a.eval y, w, by simp [execOp, ho, hV, asBool], .inl rfl, post_pure h (evalO_rep hC ht hx)⟩
  · cases hop

theorem nilCheck_sound (hC : CtxOk P C) (h : SInv Cm β s w) (ht : TmOk Cm β tm a.tmps) {o : Oper} {x : Operand} (ho : o.op = .nilCheck x) (hop : nilCheckO C tm s x = some (v, s')) : OpVal P o a w (Post Cm β s w v s') := by
  unfold nilCheckO at hop
  split at hop
  · rename_i b g off hx
    cases hop
    have r := evalO_rep hC ht hx
    refine ⟨.value (a.eval x), a.eval x, w, ?_, .inl rfl, post_pure h r⟩
    generalize hV : a.eval x = V at r ⊢
    cases r
    simp [execOp, ho, hV]
  · rename_i m cs hx
    cases hop
    have r := evalO_rep hC ht hx
    refine ⟨.value (a.eval x), a.eval x, w, ?_, .inl rfl, post_pure h r⟩
    generalize hV : a.eval x = V at r ⊢
    cases r
    simp [execOp, ho, hV]
  · rename_i g A B hx
    cases hop
    have r := evalO_rep hC ht hx
    refine ⟨.value (a.eval x), a.eval x, w, ?_, .inl rfl, post_pure h r⟩
    generalize hV : a.eval x = V at r ⊢
    cases r
    simp [execOp, ho, hV]
  · cases hop

theorem extract_sound (hC : CtxOk P C) (h : SInv Cm β s w) (ht : TmOk Cm β tm a.tmps) {o : Oper} {x : Operand} {k : Nat} (ho : o.op = .extract x k) (hop : extractO C tm s x k = some (v, s')) : OpVal P o a w (Post Cm β s w v s') := by
  unfold extractO at hop
  split at hop
  · rename_i vs hx
    obtain ⟨hl, rfl⟩ := just_some hop
    rw [lget_eq] at hl
    have r := evalO_rep hC ht hx
    generalize hV : a.eval x = V at r
    cases r with
    | tup hL =>
      obtain ⟨U, hU, hru⟩ := hL.get hl
      rw [Array.getElem?_toList] at hU
      refine OpVal.mk (x := Instr.extract (a.eval x) k) (by rw [execOp, ho]) (V := U) (w' := w) ?_ (post_pure h hru)
      simp [Instr.extract, hV, hU]
  · cases hop

theorem makeFunc_sound (hC : CtxOk P C) (h : SInv Cm β s w) (ht : TmOk Cm β tm a.tmps) {o : Oper} {f : Fn} {x y : Array Operand} (ho : o.op = .makeFunc f x y) (hop : makeFuncO C tm s f x.toList y.toList = some (v, s')) : OpVal P o a w (Post Cm β s w v s') := by
  unfold makeFuncO at hop
  split at hop
  · rename_i l1 l2 h1 h2
    cases hop
    refine OpVal.mk (x := Instr.makeFunc f (x.map a.eval) (y.map a.eval)) (by rw [execOp, ho]) (V := .func f (x.map a.eval) (y.map a.eval)) (w' := w) (by simp [Instr.makeFunc]) (post_pure h (.fn ?_ ?_))
    · simpa using evalL_rep hC ht h1
    · simpa using evalL_rep hC ht h2
  · cases hop

theorem makeInterface_sound (hC : CtxOk P C) (h : SInv Cm β s w) (ht : TmOk Cm β tm a.tmps) {o : Oper} {t : TypeId} {x : Operand} (ho : o.op = .makeInterface t x) (hop : makeInterfaceO C tm s t x = some (v, s')) : OpVal P o a w (Post Cm β s w v s') := by
  unfold makeInterfaceO at hop
  split at hop
  · rename_i i u s1 hi hx
    obtain ⟨u0, hu0, hfr⟩ := bind_some hx
    split at hop
    · cases hop
    · rename_i hnd
      cases hop
      obtain ⟨hd, Cm', h1, st, r, c1, hlen⟩ := freezeV_sound h (evalO_rep hC ht hu0) hfr
      refine OpVal.mk (x := Instr.makeInterface t (a.eval x)) (by rw [execOp, ho]) (V := .iface t (a.eval x)) (w' := w) ?_ ⟨Cm', β, h1, st, .iface r⟩
      simp only [Instr.makeInterface, Sem.run_bind, run_under hC hi, Result.andThen_ok]
      cases hD : i.desc <;> first | rfl | (simp [hD, isIfaceD] at hnd; done)
  · cases hop

theorem arith_sound {op : BinOp} {k : IntKind} {x y : Int} (hs : op ≠ .shl ∧ op ≠ .shr) (hop : arithE op k x y = some v) (t : TypeId) (w : World) : ∃ V, (binOp op t (.int k x) (.int k y)).run P w = .ok V w ∧ Rep Cm β v V := by
  obtain ⟨h1, h2⟩ := hs
  cases op <;> simp only [arithE] at hop <;> first
    | (cases hop; done)
    | (exact absurd rfl h1)
    | (exact absurd rfl h2)
    | (cases hop; refine ⟨_, ?_, .int _ _⟩; simp [binOp, Op.intArith]; done)
    | (cases hop; refine ⟨_, ?_, .int _ _⟩; simp [binOp, Op.intBits]; done)
    | (cases hop; refine ⟨_, ?_, .bool _⟩; simp [binOp, Op.intCmp]; done)
    | (split at hop
       · cases hop
       · rename_i h0; cases hop; refine ⟨_, ?_, .int _ _⟩; simp [binOp, Op.intDiv, h0])

theorem shift_sound {op : BinOp} {k j : IntKind} {x y : Int} (hs : op = .shl ∨ op = .shr) (hop : shiftE op k x y = some v) (t : TypeId) (w : World) : ∃ V, (binOp op t (.int k x) (.int j y)).run P w = .ok V w ∧ Rep Cm β v V := by
  unfold shiftE at hop
  split at hop
  · cases hop
  · rename_i h0
    rcases hs with rfl | rfl
    · simp only [] at hop; cases hop
      exact ⟨_, by simp [binOp, Op.shift, h0], .int _ _⟩
    · simp only [] at hop; cases hop
      exact ⟨_, by simp [binOp, Op.shift, h0], .int _ _⟩

theorem str_sound {op : BinOp} {x y : ByteArray} (hop : strE op x y = some v) (t : TypeId) (w : World) : ∃ V, (binOp op t (.string x) (.string y)).run P w = .ok V w ∧ Rep Cm β v V := by
  cases op <;> simp only [strE] at hop <;> first
    | (cases hop; done)
    | (cases hop; refine ⟨_, ?_, .bool _⟩; simp [binOp, Op.stringOp]; done)
    | (split at hop
       · rename_i hle
         cases hop
         refine ⟨_, ?_, .str _⟩
         simp [binOp, Op.stringOp]; omega
       · cases hop)

set_option maxHeartbeats 4000000 in
theorem eqD_sound (hC : CtxOk P C) {t : TypeId} {i : TI} (hi : C.ti t = some i) {x y : EV} {X Y : Value} {b : Bool} (hx : Rep Cm β x X) (hy : Rep Cm β y Y) (hop : eqD i x y = some b) (w : World) :
    (∀ op p q, (eqGuard op t p q X Y).run P w = .ok () w) ∧ (binOp .eql t X Y).run P w = .ok (.bool b) w ∧ (binOp .neq t X Y).run P w = .ok (.bool !b) w := by
  have hu := run_under (w := w) hC hi
  unfold eqD at hop
  generalize hD : i.desc = D at hop hu
  split at hop
  case h_19 xs ys =>
    split at hop
    · rename_i ks hq
      cases hx with
      | agg hX => cases hy with
        | agg hY =>
          obtain ⟨g1, g2⟩ := hC.eq t i hi ks hq xs ys _ _ Cm β b w hX hY hop
          refine ⟨fun op p q => ?_, ?_, ?_⟩
          · unfold eqGuard
            cases op <;> simp [g1]
          · simp [binOp, g2]
          · simp [binOp, g2]
    · cases hop
  case h_20 => cases hop
  all_goals
    cases hop
    cases hx <;> cases hy
    refine ⟨fun op p q => ?_, ?_, ?_⟩
    · unfold eqGuard
      cases op <;> simp
    · simp only [binOp, Op.equal]
      rw [show Op.maxDepth = 9999 + 1 from rfl, Op.equalIn]
      simp [hu]
    · simp only [binOp, Op.equal]
      rw [show Op.maxDepth = 9999 + 1 from rfl, Op.equalIn]
      simp [hu]

theorem bin_sound (hC : CtxOk P C) (h : SInv Cm β s w) (ht : TmOk Cm β tm a.tmps) {o : Oper} {op : BinOp} {t yt : TypeId} {x y : Operand} (ho : o.op = .binOp op t x y yt) (hop : binO C tm s op t x y = some (v, s')) : OpVal P o a w (Post Cm β s w v s') := by
  unfold binO at hop
  split at hop
  · rename_i p q hp hq
    obtain ⟨hx, rfl⟩ := just_some hop
    have rp := evalO_rep hC ht hp
    have rq := evalO_rep hC ht hq
    suffices hS : (eqGuard op t x y (a.eval x) (a.eval y)).run P w = .ok () w ∧ ∃ V, (binOp op t (a.eval x) (a.eval y)).run P w = .ok V w ∧ Rep Cm β v V by
      obtain ⟨h1, V, h2, h3⟩ := hS
      exact OpVal.mk (x := do eqGuard op t x y (a.eval x) (a.eval y); binOp op t (a.eval x) (a.eval y)) (by rw [execOp, ho]) (V := V) (w' := w) (by simp [h1, h2]) (post_pure h h3)
    unfold binE at hx
    split at hx
    · rename_i k m j n
      have e1 := rep_int rp
      have e2 := rep_int rq
      rw [e1, e2]
      refine ⟨by unfold eqGuard; cases op <;> simp, ?_⟩
      split at hx
      · exact shift_sound (.inl rfl) hx t w
      · exact shift_sound (.inr rfl) hx t w
      · split at hx
        · rename_i h1 h2 hk
          subst hk
          exact arith_sound ⟨fun e => h1 e, fun e => h2 e⟩ hx t w
        · cases hx
    · generalize hX : a.eval x = X at rp
      generalize hY : a.eval y = Y at rq
      cases rp; cases rq
      refine ⟨by unfold eqGuard; cases op <;> simp, str_sound hx t w⟩
    · split at hx
      · simp only [Option.map_eq_some_iff] at hx
        obtain ⟨b, hb, rfl⟩ := hx
        unfold eqE at hb
        split at hb
        · rename_i i hi
          obtain ⟨h1, h2, h3⟩ := eqD_sound hC hi rp rq hb w
          exact ⟨h1 _ _ _, _, h2, .bool _⟩
        · cases hb
      · simp only [Option.map_eq_some_iff] at hx
        obtain ⟨b, hb, rfl⟩ := hx
        unfold eqE at hb
        split at hb
        · rename_i i hi
          obtain ⟨h1, h2, h3⟩ := eqD_sound hC hi rp rq hb w
          exact ⟨h1 _ _ _, _, h3, .bool _⟩
        · cases hb
      · cases hx
  · cases hop

theorem un_sound (hC : CtxOk P C) (h : SInv Cm β s w) (ht : TmOk Cm β tm a.tmps) {o : Oper} {op : UnOp} {t : TypeId} {x : Operand} (ho : o.op = .unOp op t x) (hop : just s ((evalO C tm x).bind (unE op)) = some (v, s')) : OpVal P o a w (Post Cm β s w v s') := by
  obtain ⟨hx, rfl⟩ := just_some hop
  obtain ⟨p, hp, hl⟩ := bind_some hx
  have rp := evalO_rep hC ht hp
  generalize hX : a.eval x = X at rp
  suffices hS : ∃ V, (Op.unary op X).run P w = .ok V w ∧ Rep Cm β v V by
    obtain ⟨V, h1, h2⟩ := hS
    exact OpVal.mk (x := Op.unary op (a.eval x)) (by rw [execOp, ho]) (V := V) (w' := w) (by rw [hX]; exact h1) (post_pure h h2)
  unfold unE at hl
  split at hl
  · cases hl; cases rp
    exact ⟨_, by simp [Op.unary, Op.intArith], .int _ _⟩
  · cases rp
    simp only [arithE, Option.some.injEq] at hl
    subst hl
    exact ⟨_, by simp [Op.unary, Op.intBits], .int _ _⟩
  · cases hl; cases rp
    exact ⟨_, by simp [Op.unary], .bool _⟩
  · cases hl

/- Building. -/

theorem partsE_rep (hC : CtxOk P C) (ht : TmOk Cm β tm a.tmps) : ∀ {ps : List (Nat × Operand)} {vs : List (Nat × EV)}, partsE C tm ps = some vs → vs.map (·.1) = ps.map (·.1) ∧ RepL Cm β (vs.map (·.2)) (ps.map fun p => a.eval p.2) := by
  intro ps
  induction ps with
  | nil => intro vs h; simp [partsE] at h; subst h; exact ⟨rfl, .nil⟩
  | cons p ps ih =>
    intro vs h
    obtain ⟨i, x⟩ := p
    simp only [partsE] at h
    split at h
    · rename_i v vs' h1 h2
      cases h
      obtain ⟨g1, g2⟩ := ih h2
      exact ⟨by simp [g1], .cons (evalO_rep hC ht h1) g2⟩
    · cases h

theorem freezeP_sound : ∀ {vs vs' : List (Nat × EV)} {s s' : St} {Cm : Com} {Vs : List Value}, SInv Cm β s w → RepL Cm β (vs.map (·.2)) Vs → freezeP s vs = some (vs', s') →
    ∃ Cm', SInv Cm' β s' w ∧ Step Cm β s w Cm' β s' w ∧ RepL Cm' β (vs'.map (·.2)) Vs ∧ CLe Cm Cm' ∧ vs'.map (·.1) = vs.map (·.1) ∧ (∀ p ∈ vs', p.2.isDead = false) := by
  intro vs
  induction vs with
  | nil => intro vs' s s' Cm Vs h hr hf; simp [freezeP] at hf; obtain ⟨rfl, rfl⟩ := hf; exact ⟨Cm, h, .refl _ _ _ _, hr, .refl _, rfl, by simp⟩
  | cons p vs ih =>
    intro vs' s s' Cm Vs h hr hf
    obtain ⟨i, v⟩ := p
    cases hr with
    | cons h1 h2 =>
      simp only [freezeP] at hf
      split at hf
      · rename_i v1 s1 hv1
        split at hf
        · rename_i vs1 s2 hvs
          cases hf
          obtain ⟨hd, Cm1, i1, st1, r1, c1, _⟩ := freezeV_sound h h1 hv1
          obtain ⟨Cm2, i2, st2, r2, c2, e2, hd2⟩ := ih i1 (h2.mono c1 (.refl _)) hvs
          refine ⟨Cm2, i2, st1.trans st2, .cons (r1.mono c2 (.refl _)) r2, c1.trans c2, by simp [e2], ?_⟩
          intro q hq
          simp only [List.mem_cons] at hq
          rcases hq with rfl | hq
          · exact hd
          · exact hd2 q hq
        · cases hf
      · cases hf

theorem foldl_cells (off : Nat) : ∀ (cs : List Value) (A : Array Value) (j : Nat), (cs.zipIdx j).foldl (fun (cs : Array Value) (p : Value × Nat) => cs.setIfInBounds (off + p.2) p.1) A = (lsetN A.toList (off + j) cs).toArray := by
  intro cs
  induction cs with
  | nil => intro A j; simp [lsetN]
  | cons c cs ih =>
    intro A j
    rw [List.zipIdx_cons, List.foldl_cons, ih]
    simp [lsetN, lset_eq, Nat.add_assoc]

theorem fill_sound {place : Nat → Option (Nat × Nat)} {Place : Nat → Option (Nat × Nat)} (hp : ∀ i, place i = Place i) : ∀ {vs : List (Nat × EV)} {Vs : List (Nat × Value)} {cells out : List EV} {A : Array Value},
    vs.map (·.1) = Vs.map (·.1) → RepL Cm β (vs.map (·.2)) (Vs.map (·.2)) → (∀ p ∈ vs, p.2.isDead = false) → RepL Cm β cells A.toList → fillE place cells vs = some out → ∃ B, Instr.fill Place A Vs = some B ∧ RepL Cm β out B.toList := by
  intro vs
  induction vs with
  | nil =>
    intro Vs cells out A hk hr _ hc hf
    cases Vs with
    | nil => simp [fillE] at hf; subst hf; exact ⟨A, rfl, hc⟩
    | cons => simp at hk
  | cons p vs ih =>
    intro Vs cells out A hk hr hd hc hf
    obtain ⟨i, v⟩ := p
    cases Vs with
    | nil => simp at hk
    | cons q Vs =>
      obtain ⟨j, V⟩ := q
      simp only [List.map_cons, List.cons.injEq] at hk
      obtain ⟨rfl, hk⟩ := hk
      cases hr with
      | cons h1 h2 =>
        simp only [fillE] at hf
        split at hf
        · rename_i off size hpl
          split at hf
          · rename_i hcond
            have hrc := h1.cells (hd (i, v) (by simp))
            have hl := hrc.length
            have hlc := hc.length
            simp only [Array.length_toList] at hl hlc
            obtain ⟨B, hB, hrB⟩ := ih (A := (lsetN A.toList off V.cells.toList).toArray) hk h2 (fun p hp => hd p (by simp [hp])) (by simpa using hc.setN off hrc) hf
            refine ⟨B, ?_, hrB⟩
            simp only [Instr.fill, ← hp i, hpl]
            rw [if_neg (by simp; omega)]
            rw [← hB]
            congr 1
            rw [← Array.foldl_toList, Array.toList_zipIdx]
            exact foldl_cells off _ A 0
          · cases hf
        · cases hf
end
end Go.Ev
