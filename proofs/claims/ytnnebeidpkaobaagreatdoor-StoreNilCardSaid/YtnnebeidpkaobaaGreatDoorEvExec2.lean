/- Code (2): all code, and calls. -/
import Derived.Test.YtnnebeidpkaobaaGreatDoorEvExec1
set_option linter.unusedVariables false
set_option linter.unusedSimpArgs false
set_option linter.unusedSectionVars false
namespace Go.Ev
open Go
set_option linter.unusedSectionVars false
set_option linter.unusedVariables false

def Ex.to : Ex → Exit
  | .normal => .normal
  | .exit id => .exit id
  | .ret => .ret

/-- The least number of which something holds. -/
theorem least_of {p : Nat → Prop} (h : ∃ n, p n) : ∃ n, p n ∧ ∀ k, k < n → ¬ p k := by
  obtain ⟨n, hn⟩ := h
  induction n using Nat.strongRecOn with
  | _ n ih =>
    by_cases hk : ∃ k, k < n ∧ p k
    · obtain ⟨k, h1, h2⟩ := hk; exact ih k h1 h2
    · exact ⟨n, hn, fun k h1 h2 => hk ⟨k, h1, h2⟩⟩

open Classical in
noncomputable def least (p : Nat → Prop) : Nat := if h : ∃ n, p n then Classical.choose (least_of h) else 0

theorem least_spec {p : Nat → Prop} (h : ∃ n, p n) : p (least p) := by
  unfold least; rw [dif_pos h]; exact (Classical.choose_spec (least_of h)).1

theorem least_le {p : Nat → Prop} {n : Nat} (h : p n) : least p ≤ n := by
  have he : ∃ n, p n := ⟨n, h⟩
  unfold least; rw [dif_pos he]
  have := (Classical.choose_spec (least_of he)).2
  exact Nat.le_of_not_lt fun hlt => this n hlt h

section
variable {P : Program} {C : Ctx} {Cm : Com} {β : Bm} {s s' : St} {w : World} {tm tm' : Tm} {a : Act} {v : EV}

theorem cond_rep (hC : CtxOk P C) (ht : TmOk Cm β tm a.tmps) {c : Operand} {b : Bool} (h : evalO C tm c = some (.bool b)) : a.eval c = .bool b := by
  have := evalO_rep hC ht h
  generalize a.eval c = V at this
  cases this
  rfl

theorem exec_sound (hC : CtxOk P C) {call : CallE} (hcall : CallOk P call) {fuel f n0 : Nat} {Cm0 : Com} {β0 : Bm} {s0 : St} {w0 : World} {D : List Deferred} (hn : n0 = β0.length) :
    ∀ (c : Code) {tm : Tm} {s : St} {Cm : Com} {β : Bm} {a : Act} {w : World} {ex : Ex} {tm' : Tm} {s' : St} {Q : Exit → Act → World → Prop}, exec C call fuel f n0 c tm s = some (ex, tm', s') → SInv Cm β s w → Step Cm0 β0 s0 w0 Cm β s w → TmOk Cm β tm a.tmps → a.defers = D →
      (∀ Cm' β' a' w', SInv Cm' β' s' w' → Step Cm0 β0 s0 w0 Cm' β' s' w' → TmOk Cm' β' tm' a'.tmps → a'.defers = D → Q ex.to a' w') → c.wp P Q a w := by
  intro c
  induction c with
  | skip =>
    intro tm s Cm β a w ex tm' s' Q hrun h hst ht hd hQ
    simp only [exec, Option.some.injEq, Prod.mk.injEq] at hrun
    obtain ⟨rfl, rfl, rfl⟩ := hrun
    exact wp_skip (hQ Cm β a w h hst ht hd)
  | region id ops draw =>
    intro tm s Cm β a w ex tm' s' Q hrun h hst ht hd hQ
    simp only [exec] at hrun
    obtain ⟨β1, h1, hst1, ht1⟩ := tidy_sound (C := C) (f := f) (rid := id) h hst ht hn
    generalize (tidy C f n0 id tm s).1 = tm1 at *
    generalize (tidy C f n0 id tm s).2 = s1 at *
    split at hrun
    · rename_i tm2 s2 hreg
      simp only [Option.some.injEq, Prod.mk.injEq] at hrun
      obtain ⟨rfl, rfl, rfl⟩ := hrun
      cases draw with
      | true =>
        simp only [if_true] at hreg
        exact drawE_sound hC hcall hQ hreg h1 hst1 ht1 hd
      | false =>
        simp only [Bool.false_eq_true, if_false] at hreg
        refine wp_region ?_
        have := runOps_sound hC hcall hQ ops.toList 0 tm1 s1 Cm β1 a w (by simp) hreg h1 hst1 ht1 hd
        rw [List.range_eq_range']
        simpa using this
    · cases hrun
  | seq x y ihx ihy =>
    intro tm s Cm β a w ex tm' s' Q hrun h hst ht hd hQ
    simp only [exec] at hrun
    refine wp_seq ?_
    split at hrun
    · rename_i tm1 s1 h1
      exact ihx h1 h hst ht hd fun Cm1 β1 a1 w1 k1 k2 k3 k4 => ihy hrun k1 k2 k3 k4 hQ
    · rename_i hne
      refine ihx hrun h hst ht hd fun Cm1 β1 a1 w1 k1 k2 k3 k4 => ?_
      cases ex with
      | normal => exact (hne _ _ hrun).elim
      | exit id => exact hQ _ _ _ _ k1 k2 k3 k4
      | ret => exact hQ _ _ _ _ k1 k2 k3 k4
  | cond c x y ihx ihy =>
    intro tm s Cm β a w ex tm' s' Q hrun h hst ht hd hQ
    simp only [exec] at hrun
    split at hrun
    · rename_i hc; exact wp_cond_true (cond_rep hC ht hc) (ihx hrun h hst ht hd hQ)
    · rename_i hc; exact wp_cond_false (cond_rep hC ht hc) (ihy hrun h hst ht hd hQ)
    · cases hrun
  | block id b ih =>
    intro tm s Cm β a w ex tm' s' Q hrun h hst ht hd hQ
    simp only [exec] at hrun
    refine wp_block ?_
    split at hrun
    · rename_i id' tm1 s1 h1
      refine ih h1 h hst ht hd fun Cm1 β1 a1 w1 k1 k2 k3 k4 => ?_
      simp only [Ex.to, Exit.inBlock]
      split at hrun
      · rename_i he
        cases hrun
        rw [if_pos he]; exact hQ _ _ _ _ k1 k2 k3 k4
      · rename_i he
        cases hrun
        rw [if_neg he]; exact hQ _ _ _ _ k1 k2 k3 k4
    · rename_i hne
      refine ih hrun h hst ht hd fun Cm1 β1 a1 w1 k1 k2 k3 k4 => ?_
      cases ex with
      | exit id' => exact (hne _ _ _ hrun).elim
      | normal => exact hQ _ _ _ _ k1 k2 k3 k4
      | ret => exact hQ _ _ _ _ k1 k2 k3 k4
  | loop b ih =>
    intro tm s Cm β a w ex tm' s' Q hrun h hst ht hd hQ
    simp only [exec] at hrun
    let p : Act → World → Nat → Prop := fun a w m => ∃ tm s Cm β, SInv Cm β s w ∧ Step Cm0 β0 s0 w0 Cm β s w ∧ TmOk Cm β tm a.tmps ∧ a.defers = D ∧ loopE (fun tm s => exec C call fuel f n0 b tm s) m tm s = some (ex, tm', s')
    refine wp_loop (fun a w => ∃ m, p a w m) (fun a w => least (p a w)) ⟨fuel, tm, s, Cm, β, h, hst, ht, hd, hrun⟩ ?_
    intro a w hI
    have hm := least_spec hI
    generalize least (p a w) = m at hm
    obtain ⟨tm1, s1, Cm1, β1, k1, k2, k3, k4, k5⟩ := hm
    cases m with
    | zero => simp [loopE] at k5
    | succ m =>
      simp only [loopE] at k5
      split at k5
      · rename_i tm2 s2 h2
        refine ih h2 k1 k2 k3 k4 fun Cm2 β2 a2 w2 q1 q2 q3 q4 => ?_
        have : p a2 w2 m := ⟨tm2, s2, Cm2, β2, q1, q2, q3, q4, k5⟩
        exact ⟨⟨m, this⟩, Nat.lt_succ_of_le (least_le this)⟩
      · rename_i hne
        refine ih k5 k1 k2 k3 k4 fun Cm2 β2 a2 w2 q1 q2 q3 q4 => ?_
        cases ex with
        | normal => exact (hne _ _ k5).elim
        | exit id => exact hQ _ _ _ _ q1 q2 q3 q4
        | ret => exact hQ _ _ _ _ q1 q2 q3 q4
  | exit id =>
    intro tm s Cm β a w ex tm' s' Q hrun h hst ht hd hQ
    simp only [exec, Option.some.injEq, Prod.mk.injEq] at hrun
    obtain ⟨rfl, rfl, rfl⟩ := hrun
    exact wp_exit (hQ Cm β a w h hst ht hd)
  | ret =>
    intro tm s Cm β a w ex tm' s' Q hrun h hst ht hd hQ
    simp only [exec, Option.some.injEq, Prod.mk.injEq] at hrun
    obtain ⟨rfl, rfl, rfl⟩ := hrun
    exact wp_ret (hQ Cm β a w h hst ht hd)
  | _ => intro tm s Cm β a w ex tm' s' Q hrun; simp [exec] at hrun

/- What comes of a call. -/

theorem resAll_sound (hC : CtxOk P C) (h : SInv Cm β s w) (ht : TmOk Cm β tm a.tmps) : ∀ {rs : List ResultVar} {vs : List EV}, resAll C tm s rs = some vs →
    ∃ Vs : List Value, (rs.mapM fun r => (match r with | .tmp t => pure (a.tmps.getD t undef) | .cell x t => do loadVar t (← asAddr (a.tmps.getD x undef)) : Sem Value)).run P w = .ok Vs w ∧ RepL Cm β vs Vs := by
  intro rs
  induction rs with
  | nil => intro vs h; simp only [resAll, Option.some.injEq] at h; subst h; exact ⟨[], by simp, .nil⟩
  | cons r rs ih =>
    intro vs hv
    simp only [resAll] at hv
    split at hv
    · rename_i v vs' h1 h2
      cases hv
      obtain ⟨Vs, k1, k2⟩ := ih h2
      have : ∃ V, (match r with | .tmp t => pure (a.tmps.getD t undef) | .cell x t => do loadVar t (← asAddr (a.tmps.getD x undef)) : Sem Value).run P w = .ok V w ∧ Rep Cm β v V := by
        unfold resOne at h1
        split at h1
        · cases h1; exact ⟨_, by simp, ht.at _⟩
        · rename_i x t
          obtain ⟨A, V, hA, hl, hr⟩ := loadE_sound (P := P) hC h (ht.at x) h1
          exact ⟨V, by simp [hA, asAddr, hl], hr⟩
      obtain ⟨V, q1, q2⟩ := this
      exact ⟨V :: Vs, by rw [List.mapM_cons]; simp only [Sem.run_bind, q1, k1, Result.andThen_ok, Sem.run_pure], .cons q2 k2⟩
    · cases hv

theorem SInv.cutE (h : SInv Cm β s w) {Cm0 : Com} {β0 : Bm} {s0 : St} {w0 : World} (hst : Step Cm0 β0 s0 w0 Cm β s w) {n : Nat} (hn : n = β0.length) {v : EV} {V : Value} (hr : Rep Cm β v V) : Post Cm0 β0 s0 w0 v (Go.Ev.cut n v s) V w := by
  unfold Go.Ev.cut
  have h1 := hr.refs_le; have h2 := h.keep; have h3 := h.len; have h4 := hst.ble.1
  refine ⟨Cm, β.take (max (max n s.keep) v.refs), h.cut (by omega) (by omega), hst.cut (by omega), hr.cut (by omega) (by omega)⟩

theorem results_run (hC : CtxOk P C) (h : SInv Cm β s w) (ht : TmOk Cm β tm a.tmps) {fn : Func} {vs : List EV} (hv : resAll C tm s fn.results.toList = some vs) :
    ∃ Vs : List Value, RepL Cm β vs Vs ∧ (results fn a.tmps).run P w = .ok (match Vs with | [V] => V | Vs => .tuple Vs.toArray) w := by
  obtain ⟨Vs, h1, h2⟩ := resAll_sound (P := P) hC h ht hv
  refine ⟨Vs, h2, ?_⟩
  unfold results
  rw [Sem.run_bind]
  have e : (fn.results.mapM fun r => (match r with | .tmp t => pure (a.tmps.getD t undef) | .cell x t => do loadVar t (← asAddr (a.tmps.getD x undef)) : Sem Value)).run P w = .ok Vs.toArray w := by
    rw [Array.mapM_eq_mapM_toList]
    simp only [Sem.run_map, h1]
    rfl
  refine Eq.trans (congrArg (fun q => Result.andThen q fun a w' => Sem.run P (pure (if h : a.size = 1 then a[0] else Value.tuple a)) w') e) ?_
  simp only [Result.andThen_ok, Sem.run_pure]
  congr 1
  match Vs with
  | [] => rfl
  | [V] => rfl
  | V :: W :: Vs => simp

theorem finish_sound (hC : CtxOk P C) {f : FuncId} {fn : Func} {n : Nat} {Cm0 : Com} {β0 : Bm} {s0 : St} {w0 : World} (h : SInv Cm β s w) (hst : Step Cm0 β0 s0 w0 Cm β s w) (ht : TmOk Cm β tm a.tmps) (hn : n = β0.length) (hf : finish C f fn n tm s = some (v, s')) :
    ∃ V, (results fn a.tmps).run P w = .ok V w ∧ Post Cm0 β0 s0 w0 v s' V w := by
  unfold finish at hf
  split at hf
  · rename_i v1 hv
    obtain ⟨Vs, h1, h2⟩ := results_run (P := P) hC h ht hv
    obtain ⟨V, rfl, hV⟩ := repl_one rfl h1
    refine ⟨V, h2, ?_⟩
    split at hf
    · split at hf
      · cases hf
      · cases hf; exact h.cutE hst hn hV
    · simp only [Option.map_eq_some_iff] at hf
      obtain ⟨⟨v2, s2⟩, hfz, he⟩ := hf
      cases he
      obtain ⟨_, Cm1, k1, k2, k3, k4, _⟩ := freezeV_sound h hV hfz
      exact k1.cutE (hst.trans k2) hn k3
  · rename_i vs hne hv
    obtain ⟨Vs, h1, h2⟩ := results_run (P := P) hC h ht hv
    have hT : (match (generalizing := false) Vs with | [V] => V | Vs => .tuple Vs.toArray) = Value.tuple Vs.toArray := by
      match Vs, h1 with
      | [], _ => rfl
      | [V], h1 => exfalso; cases h1 with | cons h t => cases t; exact hne _ rfl
      | V :: W :: Vs, _ => rfl
    rw [hT] at h2
    refine ⟨_, h2, ?_⟩
    split at hf
    · cases hf; exact h.cutE hst hn (.tup (A := Vs.toArray) h1)
    · simp only [Option.map_eq_some_iff] at hf
      obtain ⟨⟨v2, s2⟩, hfz, he⟩ := hf
      cases he
      obtain ⟨Cm1, k1, k2, k3, k4, _⟩ := freezeL_sound h h1 hfz
      exact k1.cutE (hst.trans k2) hn (.tup (A := Vs.toArray) k3)
  · cases hf

/-- The body of a function, from a state on. -/
theorem body_sound (hC : CtxOk P C) {call : CallE} (hcall : CallOk P call) {fuel f : Nat} {fn : Func} {c : Code} (hf : P.funcs[f]? = some fn) (hb : fn.body = some c) (hnt : fn.ntmps ≤ 4000) {args : List EV} {A : Array Value} (h : SInv Cm β s w) (hr : RepL Cm β args A.toList)
    {ex : Ex} {tm' : Tm} {s1 : St} (hrun : exec C call fuel f s.h.length c (tmNew args (max args.length fn.ntmps)) s = some (ex, tm', s1)) (hex : ∀ id, ex ≠ .exit id) (hfin : finish C f fn s.h.length tm' s1 = some (v, s')) :
    Calls P f A w fun e w' => ∃ V, e = .returned V ∧ Post Cm β s w v s' V w' := by
  refine calls_of_wp hf hb ?_
  refine exec_sound hC hcall (D := []) h.len.symm c hrun h (.refl _ _ _ _) (TmOk.new hr) rfl ?_
  intro Cm1 β1 a1 w1 k1 k2 k3 k4
  obtain ⟨V, q1, q2⟩ := finish_sound (P := P) hC k1 k2 k3 h.len.symm hfin
  cases ex with
  | exit id => exact (hex id rfl).elim
  | normal => exact ⟨k4, V, q1, V, rfl, q2⟩
  | ret => exact ⟨k4, V, q1, V, rfl, q2⟩

/-- A state without blocks stands for any world, where what is handed over leads to no block. -/
theorem SInv.bare (h : SInv Cm β s w) : SInv Cm [] { h := [], keep := 0 } w :=
  ⟨rfl, fun i e k he => by simp at he, h.com, fun i j e e' k _ he => by simp at he, fun i e k he => by simp at he, Nat.le_refl _⟩

theorem Own.bare {b : Nat} : ¬ Own [] { h := [], keep := 0 } b := by
  rintro ⟨i, e, k, he, _⟩; simp at he

/-- What is done on a heap of its own leaves the heap. -/
theorem Post.frame (h : SInv Cm β s w) {V : Value} {w' : World} (hp : Post Cm [] { h := [], keep := 0 } w v s' V w') (hv : v.refs = 0) : Post Cm β s w v s V w' := by
  obtain ⟨Cm', β', p1, p2, p3⟩ := hp
  have hold : ∀ b, b < w.heap.size → w'.heap[b]? = w.heap[b]? := fun b hb => p2.frame b hb Own.bare
  refine ⟨Cm', β, ⟨h.len, ?_, p1.com, h.dis, ?_, h.keep⟩, ⟨p2.com, .refl _, p2.os, p2.tape, p2.output, p2.size, fun b hb _ => hold b hb, fun b hb => .inl hb, ?_, fun b hb => ⟨hb, rfl⟩⟩, ?_⟩
  · intro i e k he hk
    have hok := h.blk i e k he hk
    obtain ⟨c, el, fr, hm, _⟩ := hok.mem
    exact hok.mono p2.com (.refl _) (Nat.le_refl _) (hold _ (heap_lt hm))
  · intro i e k he hk hf
    have h1 := h.unc i e k he hk hf
    have h2 := h.own_lt ⟨i, e, k, he, hk, hf, rfl⟩
    cases hc : Cm' e.blk with
    | none => rfl
    | some c =>
      rcases p2.cnew _ _ hc with h3 | h3 | h3
      · rw [h1] at h3; cases h3
      · exact (Own.bare h3).elim
      · omega
  · intro b c hc
    rcases p2.cnew b c hc with h3 | h3 | h3
    · exact .inl h3
    · exact (Own.bare h3).elim
    · exact .inr (.inr h3)
  · have := p3.cut (c := 0) (Nat.zero_le _) (by omega)
    exact this.mono (.refl _) ⟨Nat.zero_le _, fun b e he => by simp at he⟩

/-- The functions that are answered otherwise. -/
def PrimOk (P : Program) (C : Ctx) (prim : CallE → Nat → FuncId → List EV → St → Option (EV × St)) : Prop :=
  ∀ (call : CallE), CallOk P call → ∀ (k f : Nat), C.prim f = some k → ∀ (args : List EV) (s : St) (v : EV) (s' : St), prim call k f args s = some (v, s') →
    ∀ (Cm : Com) (β : Bm) (w : World) (A : Array Value), SInv Cm β s w → RepL Cm β args A.toList → FRuns P f A w (Post Cm β s w v s')

theorem callE_sound (hC : CtxOk P C) {prim : CallE → Nat → FuncId → List EV → St → Option (EV × St)} (hp : PrimOk P C prim) : ∀ n, CallOk P (callE C prim n) := by
  intro n
  induction n with
  | zero => intro f args s v s' h; simp [callE] at h
  | succ n ih =>
    intro f args s v s' h Cm β w A hI hr
    simp only [callE] at h
    split at h
    · rename_i k hk
      exact hp _ ih k f hk args s v s' h Cm β w A hI hr
    · split at h
      · rename_i fn hfn
        obtain ⟨hf, hnt, hname⟩ := hC.fn f fn hfn
        split at h
        · rename_i c hb
          refine .inl ⟨fn, hf, hname, by rw [hb]; rfl, ?_⟩
          split at h
          · rename_i hpure
            simp only [Bool.and_eq_true] at hpure
            have h0 : refsL args = 0 := Nat.eq_of_beq_eq_true hpure.2
            split at h
            · rename_i v1 hv1
              cases h
              unfold callPure at hv1
              split at hv1
              · cases hv1
              · rename_i ex tm1 s1 hne hrun
                split at hv1
                · rename_i v2 s2 hfin
                  split at hv1
                  · rename_i hv0
                    cases hv1
                    have hr0 := hr.cut (c := 0) (Nat.zero_le _) (by omega)
                    have := body_sound hC ih hf hb hnt hI.bare hr0 hrun (fun id he => hne id he) hfin
                    exact this.mono fun e w' ⟨V, he, hq⟩ => ⟨V, he, hq.frame hI (Nat.eq_of_beq_eq_true hv0)⟩
                  · cases hv1
                · cases hv1
              · cases hv1
            · cases h
          · unfold callFull at h
            split at h
            · cases h
            · rename_i ex tm1 s1 hne hrun
              exact body_sound hC ih hf hb hnt hI hr hrun (fun id he => hne id he) h
            · cases h
        · cases h
      · cases h
end
end Go.Ev
