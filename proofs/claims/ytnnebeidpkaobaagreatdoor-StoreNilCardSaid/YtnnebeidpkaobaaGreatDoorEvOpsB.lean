/- Operations in the text's order; slots and blocks that are given up. -/
import Derived.Test.YtnnebeidpkaobaaGreatDoorEvOpsA
set_option linter.unusedVariables false
set_option linter.unusedSimpArgs false
set_option linter.unusedSectionVars false
namespace Go.Ev
open Go
set_option linter.unusedSectionVars false
set_option linter.unusedVariables false

section
variable {P : Program} {C : Ctx} {Cm : Com} {β : Bm} {s s' : St} {w : World} {tm : Tm} {a : Act} {v : EV}

theorem wanted_sound (ht : TmOk Cm β tm a.tmps) {ops : Array Oper} {o : Oper} {b : Bool} (h : wantedE ops.toList tm o = some b) : Region.wanted o (yielded ops a.tmps) = b := by
  unfold wantedE at h
  unfold Region.wanted
  split at h
  · rename_i hg; cases h; rw [hg]
  · rename_i j want hg
    rw [hg]
    simp only [Array.getElem?_toList] at h
    unfold yielded
    simp only []
    split at h
    · rename_i d hd
      rw [hd]
      simp only [Option.bind_some]
      by_cases hds : d < a.tmps.size
      · have hr := ht.get d hds
        rw [Array.getElem?_eq_getElem hds]
        rw [Array.getD_eq_getD_getElem?, Array.getElem?_eq_getElem hds, Option.getD_some] at hr
        generalize a.tmps[d] = V at hr
        split at h
        · rename_i b' hb'
          rw [hb'] at hr
          cases hr
          cases h
          cases b' <;> cases want <;> rfl
        · cases h
        · rename_i v' hnb hnd
          cases h
          generalize tmGet tm d = x at hr hnb hnd
          have hV : ∀ b, V ≠ .bool b := by
            intro b hb
            subst hb
            cases hr with
            | bool b => exact hnb _ rfl
            | dead V => exact hnd rfl
          cases V <;> first | exact (hV _ rfl).elim | (cases want <;> rfl)
      · have hsz := ht.size
        have hge : a.tmps.size ≤ d := Nat.le_of_not_lt hds
        rw [tmGet_of_ge (tm := tm) (t := d) (by rw [hsz]; exact hge)] at h
        cases h
        rw [Array.getElem?_eq_none (xs := a.tmps) (i := d) hge]
        cases want <;> rfl
    · rename_i hd
      cases h
      rw [hd]
      cases want <;> rfl
theorem wpOps_cons' {ops : Array Oper} {Q : Exit → Act → World → Prop} {i : Nat} {o : Oper} (ho : ops[i]? = some o) (rest : List Nat) (a : Act) (w : World) :
    wpOps P ops Q (i :: rest) a w = (if Region.wanted o (yielded ops a.tmps) then o.wp P a w (wpOps P ops Q rest) Q ∨ (o.asks P a w ∧ LetsOut Q) else wpOps P ops Q rest (a.put o.dst undef) w) := by
  simp [wpOps, ho]

theorem put_defers (a : Act) (d : Option Tmp) (V : Value) : (a.put d V).defers = a.defers := by cases d <;> rfl

theorem runOps_sound (hC : CtxOk P C) {call : CallE} (hcall : CallOk P call) {f rid : Nat} {ops : Array Oper} {Q : Exit → Act → World → Prop} {Cm0 : Com} {β0 : Bm} {s0 : St} {w0 : World} {tm' : Tm} {D : List Deferred}
    (hQ : ∀ Cm' β' a' w', SInv Cm' β' s' w' → Step Cm0 β0 s0 w0 Cm' β' s' w' → TmOk Cm' β' tm' a'.tmps → a'.defers = D → Q .normal a' w') :
    ∀ (rest : List Oper) (i : Nat) (tm : Tm) (s : St) (Cm : Com) (β : Bm) (a : Act) (w : World), rest = ops.toList.drop i → runOps C call f rid ops.toList i rest tm s = some (tm', s') →
      SInv Cm β s w → Step Cm0 β0 s0 w0 Cm β s w → TmOk Cm β tm a.tmps → a.defers = D → wpOps P ops Q (List.range' i rest.length) a w := by
  intro rest
  induction rest with
  | nil =>
    intro i tm s Cm β a w _ hrun h hst ht hd
    simp only [runOps, Option.some.injEq, Prod.mk.injEq] at hrun
    obtain ⟨rfl, rfl⟩ := hrun
    simpa [wpOps] using hQ Cm β a w h hst ht hd
  | cons o rest ih =>
    intro i tm s Cm β a w hdrop hrun h hst ht hd
    have ho : ops[i]? = some o := by
      have : (ops.toList.drop i)[0]? = some o := by rw [← hdrop]; rfl
      rw [List.getElem?_drop] at this
      simpa using this
    have hrest : rest = ops.toList.drop (i + 1) := by
      have : (o :: rest).drop 1 = (ops.toList.drop i).drop 1 := by rw [hdrop]
      rw [List.drop_drop] at this
      simpa using this
    rw [List.length_cons, List.range'_succ, wpOps_cons' ho]
    simp only [runOps] at hrun
    split at hrun
    · rename_i hw
      rw [wanted_sound ht hw, if_pos rfl]
      split at hrun
      · rename_i v1 s1 hop
        split at hrun
        · refine .inl ((opE_sound hC hcall h ht hop).wp fun V w' ⟨Cm1, β1, p1, p2, p3⟩ => ?_)
          exact ih (i + 1) _ s1 Cm1 β1 _ w' hrest hrun p1 (hst.trans p2) ((ht.mono p2.com p2.ble).put o.dst p3) (by rw [put_defers]; exact hd)
        · cases hrun
      · cases hrun
    · rename_i hw
      rw [wanted_sound ht hw]
      simp only [Bool.false_eq_true, if_false]
      exact ih (i + 1) _ s Cm β _ w hrest hrun h hst (ht.put o.dst .undef) (by rw [put_defers]; exact hd)
    · cases hrun

/- Slots and blocks that are given up. -/

theorem TmOk.kill (ht : TmOk Cm β tm a.tmps) : ∀ (l : List Nat) {tm : Tm}, TmOk Cm β tm a.tmps → TmOk Cm β (tmKill tm l) a.tmps
  | [], _, h => h
  | t :: l, tm, h => by
    refine TmOk.kill ht l ?_
    obtain ⟨n, hd, hs⟩ := h.deep
    refine ⟨by rw [tmSet_size]; exact h.size, ⟨n, ?_, by rw [tmSet_size]; exact hs⟩, fun u hu => ?_⟩
    · unfold tmSet; split
      · exact Deep.set _ _ hd
      · exact hd
    · have hg := h.get u hu
      rw [tmGet_tmSet hd hs]
      by_cases hc : u = t ∧ t < tm.size
      · rw [if_pos hc]; exact .dead _
      · rw [if_neg hc]; exact hg

theorem Tree.get_refs : ∀ (t : Tree) (n : Nat), (t.get n).refs ≤ t.refs
  | .leaf v, n => Nat.le_refl _
  | .node l r, n => by
    simp only [Tree.get, Tree.refs]
    split
    · exact Nat.le_trans (Tree.get_refs l _) (Nat.le_max_left _ _)
    · exact Nat.le_trans (Tree.get_refs r _) (Nat.le_max_right _ _)

theorem tmGet_refs (tm : Tm) (t : Nat) : (tmGet tm t).refs ≤ tm.t.refs := by
  unfold tmGet
  split
  · exact Tree.get_refs _ _
  · simp [undefE, EV.refs, refsL]

/-- Blocks behind the start that nobody refers to are dropped. -/
theorem Step.cut {Cm0 : Com} {β0 : Bm} {s0 : St} {w0 : World} (hst : Step Cm0 β0 s0 w0 Cm β s w) {n : Nat} (hn : β0.length ≤ n) : Step Cm0 β0 s0 w0 Cm (β.take n) { s with h := s.h.take n } w := by
  have hble := hst.ble
  refine ⟨hst.com, ⟨by have := hble.1; simp; omega, fun b e he => ?_⟩, hst.os, hst.tape, hst.output, hst.size, hst.frame, fun b hb => hst.own b ?_, hst.cnew, fun b hb => ?_⟩
  · obtain ⟨e', h1, h2⟩ := hble.2 b e he
    have := (List.getElem?_eq_some_iff.1 he).1
    exact ⟨e', by rw [List.getElem?_take, if_pos (by omega)]; exact h1, h2⟩
  · obtain ⟨i, e, k, h1, h2, h3⟩ := hb
    rw [List.getElem?_take] at h1
    simp only [List.getElem?_take] at h2
    split at h1
    · rename_i hi; rw [if_pos hi] at h2; exact ⟨i, e, k, h1, h2, h3⟩
    · cases h1
  · have hlt := (List.getElem?_eq_some_iff.1 hb).1
    obtain ⟨h1, h2⟩ := hst.unp b hb
    exact ⟨by rw [List.getElem?_take, if_pos (by omega)]; exact h1, by simp only [List.getElem?_take]; rw [if_pos (by omega)]; exact h2⟩

theorem TmOk.cut (ht : TmOk Cm β tm a.tmps) {n : Nat} (hn : n ≤ β.length) (hr : ∀ t, (tmGet tm t).refs ≤ n) : TmOk Cm (β.take n) tm a.tmps :=
  ⟨ht.size, ht.deep, fun t h => (ht.get t h).cut hn (hr t)⟩

theorem take_min {α : Type} (l : List α) (n : Nat) : l.take n = l.take (min n l.length) := by
  rcases Nat.le_total n l.length with h | h
  · rw [Nat.min_eq_left h]
  · rw [Nat.min_eq_right h, List.take_of_length_le h, List.take_length]

theorem tidy_sound {Cm0 : Com} {β0 : Bm} {s0 : St} {w0 : World} {f n0 rid : Nat} (h : SInv Cm β s w) (hst : Step Cm0 β0 s0 w0 Cm β s w) (ht : TmOk Cm β tm a.tmps) (hn : n0 = β0.length) :
    ∃ β', SInv Cm β' (tidy C f n0 rid tm s).2 w ∧ Step Cm0 β0 s0 w0 Cm β' (tidy C f n0 rid tm s).2 w ∧ TmOk Cm β' (tidy C f n0 rid tm s).1 a.tmps := by
  unfold tidy
  split
  · exact ⟨β, h, hst, ht⟩
  · rename_i l _
    have hk := ht.kill l ht
    generalize tmKill tm l = tm1 at hk
    simp only []
    generalize hN : max (max n0 s.keep) tm1.t.refs = N
    have hl := h.len
    have hble := hst.ble.1
    have hkeep := h.keep
    have e1 : β.take N = β.take (min N s.h.length) := by rw [take_min, hl]
    have e2 : s.h.take N = s.h.take (min N s.h.length) := take_min _ _
    refine ⟨β.take N, ?_, hst.cut (by omega), ?_⟩
    · rw [e1, e2]; exact h.cut (by omega) (by omega)
    · rw [e1]
      refine hk.cut (by omega) fun t => ?_
      have h1 := tmGet_refs tm1 t
      have h2 := (hk.at t).refs_le
      omega
end
end Go.Ev
