/- More fuel gives the same answer. -/
import Derived.Test.YtnnebeidpkaobaaGreatDoorEvWp
set_option linter.unusedVariables false
set_option linter.unusedSimpArgs false
set_option linter.unusedSectionVars false
namespace Go.Ev
open Go
set_option linter.unusedSectionVars false
set_option linter.unusedVariables false

/-- One way of answering calls answers all that another one does. -/
def CallLe (a b : CallE) : Prop := ∀ f args s r, a f args s = some r → b f args s = some r

section
variable {C : Ctx} {a b : CallE} (h : CallLe a b)
include h

theorem opE_le {f rid i : Nat} {o : Oper} {tm : Tm} {s : St} {r : EV × St} (ho : opE C a f rid i o tm s = some r) : opE C b f rid i o tm s = some r := by
  unfold opE at ho ⊢
  cases hop : o.op <;> rw [hop] at ho <;> simp only [] at ho ⊢ <;> try exact ho
  rename_i c
  unfold callO at ho ⊢
  cases hc : c.callee <;> rw [hc] at ho <;> simp only [] at ho ⊢ <;> try exact ho
  split at ho
  · rename_i gv as h1 h2
    try simp only [h1, h2]
    unfold callV at ho ⊢
    split at ho
    · skip
      split at ho
      · rename_i hb; rw [if_pos hb]; exact h _ _ _ _ ho
      · rename_i hb
        rw [if_neg hb]
        split at ho
        · exact h _ _ _ _ ho
        · cases ho
    · cases ho
  · cases ho

theorem runOps_le {f rid : Nat} {ops : List Oper} : ∀ {rest : List Oper} {i : Nat} {tm : Tm} {s : St} {r : Tm × St}, runOps C a f rid ops i rest tm s = some r → runOps C b f rid ops i rest tm s = some r
  | [], i, tm, s, r, hr => hr
  | o :: rest, i, tm, s, r, hr => by
    simp only [runOps] at hr ⊢
    split at hr
    · split at hr
      · rename_i v s1 hop
        rw [opE_le h hop]
        try simp only []
        split at hr
        · exact runOps_le hr
        · cases hr
      · cases hr
    · exact runOps_le hr
    · cases hr

theorem runDraw_le {f rid : Nat} {ops : List Oper} : ∀ {rest : List Oper} {i n : Nat} {tm : Tm} {s : St} {hs : List St} {rs : List Rd} {r : Tm × List St × List Rd}, runDraw C a f rid ops i n rest tm s hs rs = some r → runDraw C b f rid ops i n rest tm s hs rs = some r
  | [], i, n, tm, s, hs, rs, r, hr => hr
  | o :: rest, i, n, tm, s, hs, rs, r, hr => by
    simp only [runDraw] at hr ⊢
    split at hr
    · rename_i ha; rw [if_pos ha]; exact runDraw_le hr
    · rename_i ha
      rw [if_neg ha]
      split at hr
      · split at hr
        · rename_i v s1 hop
          rw [opE_le h hop]
          try simp only []
          split at hr
          · try simp only []
            split at hr
            · rename_i hh; rw [if_pos hh]; exact runDraw_le hr
            · rename_i hh
              rw [if_neg hh]
              split at hr
              · rename_i hl; rw [if_pos hl]; exact runDraw_le hr
              · cases hr
          · cases hr
        · cases hr
      · skip
        split at hr
        · rename_i hh; rw [if_pos hh]; exact runDraw_le hr
        · rename_i hh; rw [if_neg hh]; exact runDraw_le hr
      · cases hr

theorem readsOk_le {f rid : Nat} {ops : List Oper} {ms : List Nat} {hs : List St} : ∀ {rs : List Rd}, readsOk C a f rid ops ms hs rs = true → readsOk C b f rid ops ms hs rs = true
  | [], hr => hr
  | r :: rs, hr => by
    simp only [readsOk, Bool.and_eq_true] at hr ⊢
    refine ⟨List.all_eq_true.2 fun S hS => ?_, readsOk_le hr.2⟩
    have := List.all_eq_true.1 hr.1 S hS
    split at this
    · rename_i v s1 hop
      rw [opE_le h hop]; exact this
    · cases this

theorem drawE_le {f rid : Nat} {ops : List Oper} {tm : Tm} {s : St} {r : Tm × St} (hr : drawE C a f rid ops tm s = some r) : drawE C b f rid ops tm s = some r := by
  unfold drawE at hr ⊢
  split at hr
  · rename_i hok
    rw [if_pos hok]
    split at hr
    · rename_i s0 hp
      try simp only []
      split at hr
      · rename_i tm' s' hs rs hd
        rw [runDraw_le h hd]
        try simp only []
        split at hr
        · rename_i hrd; rw [if_pos (readsOk_le h hrd)]; exact hr
        · cases hr
      · cases hr
    · cases hr
  · cases hr

theorem loopE_le {x y : Tm → St → Option (Ex × Tm × St)} (hxy : ∀ tm s r, x tm s = some r → y tm s = some r) : ∀ {n m : Nat} {tm : Tm} {s : St} {r : Ex × Tm × St}, n ≤ m → loopE x n tm s = some r → loopE y m tm s = some r
  | 0, m, tm, s, r, _, hr => by simp [loopE] at hr
  | n + 1, m, tm, s, r, hm, hr => by
    obtain ⟨m, rfl⟩ : ∃ m', m = m' + 1 := ⟨m - 1, by omega⟩
    simp only [loopE] at hr ⊢
    split at hr
    · rename_i tm1 s1 hx
      rw [hxy _ _ _ hx]
      exact loopE_le hxy (by omega) hr
    · rename_i hne
      cases hx : x tm s with
      | none => rw [hx] at hr; cases hr
      | some q =>
        rw [hx] at hr
        cases hr
        rw [hxy _ _ _ hx]
        split
        · rename_i heq; cases heq; exact (hne _ _ hx).elim
        · rfl

theorem exec_le {n m f n0 : Nat} (hnm : n ≤ m) : ∀ {c : Code} {tm : Tm} {s : St} {r : Ex × Tm × St}, exec C a n f n0 c tm s = some r → exec C b m f n0 c tm s = some r := by
  intro c
  induction c with
  | region id ops draw =>
    intro tm s r hr
    simp only [exec] at hr ⊢
    cases draw with
    | true =>
      simp only [if_true] at hr ⊢
      split at hr
      · rename_i t1 s1 hd; rw [drawE_le h hd]; exact hr
      · cases hr
    | false =>
      simp only [Bool.false_eq_true, if_false] at hr ⊢
      split at hr
      · rename_i t1 s1 hd; rw [runOps_le h hd]; exact hr
      · cases hr
  | seq x y ihx ihy =>
    intro tm s r hr
    simp only [exec] at hr ⊢
    split at hr
    · rename_i t1 s1 hx; rw [ihx hx]; exact ihy hr
    · rename_i hne
      cases hx : exec C a n f n0 x tm s with
      | none => rw [hx] at hr; cases hr
      | some q =>
        rw [hx] at hr; cases hr
        rw [ihx hx]
        split
        · rename_i heq; cases heq; exact (hne _ _ hx).elim
        · rfl
  | cond c x y ihx ihy =>
    intro tm s r hr
    simp only [exec] at hr ⊢
    split at hr
    · exact ihx hr
    · exact ihy hr
    · cases hr
  | block id x ih =>
    intro tm s r hr
    simp only [exec] at hr ⊢
    split at hr
    · rename_i id' t1 s1 hx; rw [ih hx]; exact hr
    · rename_i hne
      cases hx : exec C a n f n0 x tm s with
      | none => rw [hx] at hr; cases hr
      | some q =>
        rw [hx] at hr; cases hr
        rw [ih hx]
        split
        · rename_i heq; cases heq; exact (hne _ _ _ hx).elim
        · rfl
  | loop x ih =>
    intro tm s r hr
    simp only [exec] at hr ⊢
    exact loopE_le h (fun tm s r hx => ih hx) hnm hr
  | _ => intro tm s r hr; first | exact hr | (simp [exec] at hr)
end

section
variable {C : Ctx} {a b : CallE} (h : CallLe a b)
include h

theorem callPure_le {n m f : Nat} (hnm : n ≤ m) {fn : Func} {c : Code} {args : List EV} {v : EV} (hv : callPure C a n f fn c args = some v) : callPure C b m f fn c args = some v := by
  unfold callPure at hv ⊢
  split at hv
  · cases hv
  · rename_i ex tm s' hne hx
    rw [exec_le h hnm hx]
    split
    · rename_i heq; cases heq; exact (hne _ rfl).elim
    · rename_i heq; cases heq; exact hv
    · rename_i heq; cases heq
  · cases hv

theorem callFull_le {n m f : Nat} (hnm : n ≤ m) {fn : Func} {c : Code} {args : List EV} {s : St} {r : EV × St} (hv : callFull C a n f fn c args s = some r) : callFull C b m f fn c args s = some r := by
  unfold callFull at hv ⊢
  split at hv
  · cases hv
  · rename_i ex tm s' hne hx
    rw [exec_le h hnm hx]
    split
    · rename_i heq; cases heq; exact (hne _ rfl).elim
    · rename_i heq; cases heq; exact hv
    · rename_i heq; cases heq
  · cases hv
end

/-- The functions that are answered otherwise: more answers of calls give no other one. -/
def PrimLe (prim : CallE → Nat → FuncId → List EV → St → Option (EV × St)) : Prop := ∀ a b, CallLe a b → ∀ k f args s r, prim a k f args s = some r → prim b k f args s = some r

theorem callE_le {C : Ctx} {prim : CallE → Nat → FuncId → List EV → St → Option (EV × St)} (hp : PrimLe prim) : ∀ {n m : Nat}, n ≤ m → CallLe (callE C prim n) (callE C prim m)
  | 0, m, _ => fun f args s r hr => by simp [callE] at hr
  | n + 1, m, hm => fun f args s r hr => by
    obtain ⟨m, rfl⟩ : ∃ m', m = m' + 1 := ⟨m - 1, by omega⟩
    have ih := callE_le (C := C) hp (show n ≤ m by omega)
    simp only [callE] at hr ⊢
    split at hr
    · exact hp _ _ ih _ _ _ _ _ hr
    · split at hr
      · split at hr
        · split at hr
          · rename_i hpu
            split at hr
            · rename_i v hv
              rw [if_pos hpu, callPure_le ih (by omega) hv]; exact hr
            · cases hr
          · rename_i hpu
            rw [if_neg hpu]
            exact callFull_le ih (by omega) hr
        · cases hr
      · cases hr

/-- A computed answer. -/
theorem Ev.of {C : Ctx} {prim : CallE → Nat → FuncId → List EV → St → Option (EV × St)} (hp : PrimLe prim) {n : Nat} {f : FuncId} {args : List EV} {s s' : St} {v : EV} (h : callE C prim n f args s = some (v, s')) : Ev C prim f args s v s' :=
  ⟨n, fun m hm => callE_le hp hm f args s _ h⟩
end Go.Ev
