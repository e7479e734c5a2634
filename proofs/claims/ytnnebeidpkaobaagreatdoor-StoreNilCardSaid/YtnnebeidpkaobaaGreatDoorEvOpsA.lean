/- Operations: what they make of related states (10): builtins together, calls, and every operation. -/
import Derived.Test.YtnnebeidpkaobaaGreatDoorEvOps9
set_option linter.unusedVariables false
set_option linter.unusedSimpArgs false
set_option linter.unusedSectionVars false
namespace Go.Ev
open Go
set_option linter.unusedSectionVars false
set_option linter.unusedVariables false

section
variable {P : Program} {C : Ctx} {Cm : Com} {β : Bm} {s s' : St} {w : World} {tm : Tm} {a : Act} {v : EV}

/-- A function comes to a value: with a body, or without. -/
def FRuns (P : Program) (f : FuncId) (A : Array Value) (w : World) (R : Value → World → Prop) : Prop :=
  (∃ fn, P.funcs[f]? = some fn ∧ fn.name ≠ "runtime.NumGoroutine" ∧ fn.body.isSome = true ∧ Calls P f A w fun e w' => ∃ V, e = .returned V ∧ R V w') ∨
  (∃ V w', (callFunc f A).run P w = .ok (.value V) w' ∧ R V w')

/-- What a call answers is what the function comes to. -/
def CallOk (P : Program) (call : CallE) : Prop :=
  ∀ (f : FuncId) (args : List EV) (s : St) (v : EV) (s' : St), call f args s = some (v, s') →
    ∀ (Cm : Com) (β : Bm) (w : World) (A : Array Value), SInv Cm β s w → RepL Cm β args A.toList → FRuns P f A w (Post Cm β s w v s')

/-- An operation comes to a value, perhaps by a call. -/
def OpRuns (P : Program) (o : Oper) (a : Act) (w : World) (R : Value → World → Prop) : Prop :=
  OpVal P o a w R ∨ ∃ f A, (execOp a.eval o).run P w = .ok (.enter f A) w ∧ Calls P f A w fun e w' => ∃ V, e = .returned V ∧ R V w'

theorem OpRuns.wp {P : Program} {o : Oper} {a : Act} {w : World} {R : Value → World → Prop} {next : Act → World → Prop} {Q : Exit → Act → World → Prop} (h : OpRuns P o a w R) (hk : ∀ V w', R V w' → next (a.put o.dst V) w') : o.wp P a w next Q := by
  rcases h with h | ⟨f, A, h1, h2⟩
  · exact h.wp hk
  · unfold Oper.wp
    rw [h1]
    exact h2.mono fun e w' ⟨V, he, hR⟩ => by subst he; exact hk _ _ hR

theorem OpRuns.mono {P : Program} {o : Oper} {a : Act} {w : World} {R R' : Value → World → Prop} (h : OpRuns P o a w R) (hr : ∀ V w', R V w' → R' V w') : OpRuns P o a w R' := by
  rcases h with ⟨n, V, w', h1, h2, h3⟩ | ⟨f, A, h1, h2⟩
  · exact .inl ⟨n, V, w', h1, h2, hr _ _ h3⟩
  · exact .inr ⟨f, A, h1, h2.mono fun e w' ⟨V, he, hR⟩ => ⟨V, he, hr _ _ hR⟩⟩

theorem repl_one {args : List EV} {x : EV} {L : List Value} (he : args = [x]) (h : RepL Cm β args L) : ∃ X, L = [X] ∧ Rep Cm β x X := by
  subst he
  cases h with
  | cons h t => cases t; exact ⟨_, rfl, h⟩

theorem repl_two {args : List EV} {x y : EV} {L : List Value} (he : args = [x, y]) (h : RepL Cm β args L) : ∃ X Y, L = [X, Y] ∧ Rep Cm β x X ∧ Rep Cm β y Y := by
  subst he
  cases h with
  | cons h t => obtain ⟨Y, rfl, hy⟩ := repl_one rfl t; exact ⟨_, _, rfl, h, hy⟩

theorem array_of_list {A : Array Value} {L : List Value} (h : A.toList = L) : A = L.toArray := by rw [← h]

theorem builtin_sound (hC : CtxOk P C) (h : SInv Cm β s w) {b : Builtin} {ts : Array TypeId} {ty : TypeId} {cs : Array Bool} {args : List EV} {A : Array Value} (hr : RepL Cm β args A.toList) (hop : builtinE C b ts.toList args s = some (v, s')) :
    ∃ V w', (builtin b ts ty cs A).run P w = .ok (.value V) w' ∧ Post Cm β s w v s' V w' := by
  have fin : ∀ {x : Sem Value}, (builtin b ts ty cs A = do let v ← x; pure (.value v)) → BVal P x w (Post Cm β s w v s') → ∃ V w', (builtin b ts ty cs A).run P w = .ok (.value V) w' ∧ Post Cm β s w v s' V w' := by
    rintro x hx ⟨V, w', h1, h2⟩
    exact ⟨V, w', by rw [hx]; simp [h1], h2⟩
  have hop0 := hop
  unfold builtinE at hop
  split at hop
  · rename_i x
    obtain ⟨X, hA, hx⟩ := repl_one rfl hr
    rw [array_of_list hA] at fin ⊢
    exact fin rfl (len_sound hC h hx hop0)
  · rename_i x y
    obtain ⟨X, Y, hA, hx, hy⟩ := repl_two rfl hr
    rw [array_of_list hA] at fin ⊢
    exact fin rfl (append_sound hC h hx hy hop)
  · rename_i x y
    obtain ⟨X, Y, hA, hx, hy⟩ := repl_two rfl hr
    rw [array_of_list hA] at fin ⊢
    exact fin rfl (copy_sound hC h hx hy hop)
  · rename_i x
    obtain ⟨X, hA, hx⟩ := repl_one rfl hr
    rw [array_of_list hA] at fin ⊢
    split at hop
    · rename_i t ht
      exact fin rfl (clear_sound hC h (by simpa using ht) hx hop)
    · cases hop
  · rename_i x rest
    split at hop
    · rename_i k n
      simp only [Option.map_eq_some_iff] at hop
      obtain ⟨v', hv, he⟩ := hop
      cases he
      have hcons : ∃ X R, A.toList = X :: R ∧ Rep Cm β (.int k n) X ∧ RepL Cm β rest R := by
        generalize A.toList = L at hr
        cases hr with
        | cons h t => exact ⟨_, _, rfl, h, t⟩
      obtain ⟨X, R, hA, hX, hR⟩ := hcons
      obtain ⟨V, h1, h2⟩ := maxE_sound (P := P) h hX hR hv
      rw [array_of_list hA] at fin ⊢
      exact fin rfl ⟨V, w, by simpa [Builtin.max_] using h1, post_pure h h2⟩
    · cases hop
  · rename_i x rest
    split at hop
    · rename_i k n
      simp only [Option.map_eq_some_iff] at hop
      obtain ⟨v', hv, he⟩ := hop
      cases he
      have hcons : ∃ X R, A.toList = X :: R ∧ Rep Cm β (.int k n) X ∧ RepL Cm β rest R := by
        generalize A.toList = L at hr
        cases hr with
        | cons h t => exact ⟨_, _, rfl, h, t⟩
      obtain ⟨X, R, hA, hX, hR⟩ := hcons
      obtain ⟨V, h1, h2⟩ := maxE_sound (P := P) h hX hR hv
      rw [array_of_list hA] at fin ⊢
      exact fin rfl ⟨V, w, by simpa [Builtin.min_] using h1, post_pure h h2⟩
    · cases hop
  · cases hop

theorem evalL_arr (hC : CtxOk P C) (ht : TmOk Cm β tm a.tmps) {xs : Array Operand} {vs : List EV} (h : evalL C tm xs.toList = some vs) : RepL Cm β vs (xs.map a.eval).toList := by
  have := evalL_rep hC ht h
  simpa using this

theorem callO_sound (hC : CtxOk P C) {call : CallE} (hcall : CallOk P call) (h : SInv Cm β s w) (ht : TmOk Cm β tm a.tmps) {o : Oper} {c : Call} (ho : o.op = .call c) (hop : callO C tm s call c = some (v, s')) : OpRuns P o a w (Post Cm β s w v s') := by
  unfold callO at hop
  have hex : execOp a.eval o = (do let d ← resolve a.eval c o.type; invoke d.target d.args) := by rw [execOp, ho]
  split at hop
  · rename_i b hb
    split at hop
    · rename_i args hargs
      obtain ⟨V, w', h1, h2⟩ := builtin_sound (P := P) (ty := o.type) (cs := c.args.map fun | .const _ => true | _ => false) hC h (evalL_arr hC ht hargs) hop
      refine .inl ⟨.value V, V, w', ?_, .inl rfl, h2⟩
      rw [hex]
      simp only [resolve, hb, Sem.run_bind, Sem.run_pure, Result.andThen_ok, invoke]
      exact h1
    · cases hop
  · rename_i g hg
    split at hop
    · rename_i gv args hgv hargs
      have hr := evalL_arr hC ht hargs
      have hrg := evalO_rep hC ht hgv
      unfold callV at hop
      split at hop
      · rename_i gid first captured
        generalize hgV : a.eval g = GV at hrg
        cases hrg with
        | fn ha hb =>
          rename_i A B
          have key : ∀ (args' : List EV) (s1 : St) (Cm1 : Com), SInv Cm1 β s1 w → Step Cm β s w Cm1 β s1 w → CLe Cm Cm1 → RepL Cm1 β args' (c.args.map a.eval).toList → call gid (first ++ args' ++ captured) s1 = some (v, s') → OpRuns P o a w (Post Cm β s w v s') := by
            intro args' s1 Cm1 hi hst hcl hra hcl2
            have hL : RepL Cm1 β (first ++ args' ++ captured) (A ++ c.args.map a.eval ++ B).toList := by
              rw [Array.toList_append, Array.toList_append]
              exact ((ha.mono hcl (.refl _)).append hra).append (hb.mono hcl (.refl _))
            have hrun : (execOp a.eval o).run P w = (callFunc gid (A ++ c.args.map a.eval ++ B)).run P w := by
              rw [hex]
              simp only [resolve, hg, hgV, Deferred.ofValue, Sem.run_bind, Sem.run_pure, Result.andThen_ok, invoke]
            have hpost : ∀ V w', Post Cm1 β s1 w v s' V w' → Post Cm β s w v s' V w' := fun V w' ⟨C2, β2, p1, p2, p3⟩ => ⟨C2, β2, p1, hst.trans p2, p3⟩
            rcases hcall gid _ s1 v s' hcl2 Cm1 β w _ hi hL with ⟨fn, hf, hn, hbody, hc⟩ | ⟨V, w', hc, hp⟩
            · refine .inr ⟨gid, A ++ c.args.map a.eval ++ B, ?_, hc.mono fun e w' ⟨V, he, hp⟩ => ⟨V, he, hpost _ _ hp⟩⟩
              rw [hrun]
              unfold callFunc
              simp only [Sem.run_bind, run_program, Result.andThen_ok, hf]
              have hn' : (fn.name == "runtime.NumGoroutine") = false := by simpa using hn
              have hb' : fn.body.isNone = false := by cases hq : fn.body <;> simp_all
              simp [hn', hb']
            · exact .inl ⟨.value V, V, w', by rw [hrun]; exact hc, .inl rfl, hpost _ _ hp⟩
          split at hop
          · exact key args s Cm h (.refl _ _ _ _) (.refl _) hr hop
          · split at hop
            · rename_i args' s1 hfz
              obtain ⟨Cm1, k1, k2, k3, k4, _⟩ := freezeL_sound h hr hfz
              exact key args' s1 Cm1 k1 k2 k4 k3 hop
            · cases hop
      · cases hop
    · cases hop
  · cases hop

theorem opE_sound (hC : CtxOk P C) {call : CallE} (hcall : CallOk P call) (h : SInv Cm β s w) (ht : TmOk Cm β tm a.tmps) {f rid idx : Nat} {o : Oper} (hop : opE C call f rid idx o tm s = some (v, s')) : OpRuns P o a w (Post Cm β s w v s') := by
  unfold opE at hop
  split at hop
  · rename_i x ho; exact .inl (move_sound hC h ht (.inl ho) hop)
  · rename_i x ho; exact .inl (move_sound hC h ht (.inr ho) hop)
  · rename_i ho; exact .inl (pick_sound hC h ht ho hop)
  · rename_i ho; exact .inl (alloc_sound hC h ho hop)
  · rename_i ho; exact .inl (box_sound hC h ht ho hop)
  · rename_i ho; exact .inl (build_sound hC h ht ho hop)
  · rename_i ho; exact .inl (buildSlice_sound hC h ht ho hop)
  · rename_i ho; exact .inl (load_sound hC h ht ho hop)
  · rename_i ho; exact .inl (store_sound hC h ht ho hop)
  · rename_i ho; exact .inl (nilCheck_sound hC h ht ho hop)
  · rename_i ho; exact .inl (bin_sound hC h ht ho hop)
  · rename_i ho; exact .inl (un_sound hC h ht ho hop)
  · rename_i ho; exact .inl (conv_sound hC h ht ho hop)
  · rename_i ho; exact .inl (makeInterface_sound hC h ht ho hop)
  · rename_i ho; exact .inl (makeFunc_sound hC h ht ho hop)
  · rename_i ho; exact .inl (makeSlice_sound hC h ht ho hop)
  · rename_i ho; exact .inl (slice_sound hC h ht ho hop)
  · rename_i ho; exact .inl (fieldAddr_sound hC h ht ho hop)
  · rename_i ho; exact .inl (field_sound hC h ht ho hop)
  · rename_i ho; exact .inl (indexAddr_sound hC h ht ho hop)
  · rename_i ho; exact .inl (index_sound hC h ht ho hop)
  · rename_i ho; exact .inl (extract_sound hC h ht ho hop)
  · rename_i ho; exact callO_sound hC hcall h ht ho hop
  · cases hop
end
end Go.Ev
