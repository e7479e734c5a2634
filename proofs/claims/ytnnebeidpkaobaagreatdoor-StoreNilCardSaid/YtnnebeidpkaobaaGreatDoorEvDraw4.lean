/- Regions that draw their order (4): one operation of any order. -/
import Derived.Test.YtnnebeidpkaobaaGreatDoorEvDraw3
set_option linter.unusedVariables false
set_option linter.unusedSimpArgs false
set_option linter.unusedSectionVars false
namespace Go.Ev
open Go
set_option linter.unusedSectionVars false
set_option linter.unusedVariables false

section
variable {P : Program} {C : Ctx} {Cm : Com} {β : Bm} {s s' : St} {w : World} {tm : Tm} {a : Act} {v : EV}

/-- A block that waited comes to lie somewhere. -/
theorem SInv.place (h : SInv Cm β s w) {n : Nat} {cells : List EV} {c : Array Value} {elem : TypeId} (hn : β[n]? = some none) (hk : s.h[n]? = some ⟨0, false, false, cells⟩) (hr : RepL Cm β cells c.toList) (h0 : refsL cells = 0) :
    SInv Cm (β.set n (some ⟨w.heap.size, 0, c.size, 0, false, cells.length⟩)) s { w with heap := w.heap.push (.cells c elem (0, 0)) } ∧ BLe β (β.set n (some ⟨w.heap.size, 0, c.size, 0, false, cells.length⟩)) := by
  have hnl : n < β.length := (List.getElem?_eq_some_iff.1 hn).1
  generalize hE : (⟨w.heap.size, 0, c.size, 0, false, cells.length⟩ : Ent) = E
  have hEb : E.blk = w.heap.size := by rw [← hE]
  have hl := hr.length
  simp only [Array.length_toList] at hl
  have hb : BLe β (β.set n (some E)) := by
    refine ⟨by simp, fun b e he => ⟨e, ?_, .inl rfl⟩⟩
    have : n ≠ b := fun z => by subst z; rw [hn] at he; cases he
    rw [List.getElem?_set_ne this]; exact he
  have hold : ∀ b, b < w.heap.size → ({ w with heap := w.heap.push (.cells c elem (0, 0)) } : World).heap[b]? = w.heap[b]? := fun b hb => by
    show (w.heap.push _)[b]? = _
    rw [Array.getElem?_push, if_neg (by omega)]
  have hix : ∀ (i : Nat) (e : Ent), (β.set n (some E))[i]? = some (some e) → (i ≠ n ∧ β[i]? = some (some e)) ∨ (i = n ∧ e = E) := by
    intro i e he
    by_cases hin : i = n
    · subst hin; simp [hnl] at he; exact .inr ⟨rfl, he.symm⟩
    · rw [List.getElem?_set_ne (fun z => hin z.symm)] at he; exact .inl ⟨hin, he⟩
  have hltb : ∀ (i : Nat) (e : Ent), β[i]? = some (some e) → e.blk < w.heap.size := by
    intro i e he
    have hi : i < s.h.length := by rw [← h.len]; exact (List.getElem?_eq_some_iff.1 he).1
    obtain ⟨cc, el, fr, hm, _⟩ := (h.blk i e _ he (List.getElem?_eq_getElem hi)).mem
    exact heap_lt hm
  refine ⟨⟨by simp [h.len], ?_, ?_, ?_, ?_, h.keep⟩, hb⟩
  · intro i e k he hkk
    rcases hix i e he with ⟨hi, he⟩ | ⟨rfl, rfl⟩
    · have hok := h.blk i e k he hkk
      exact hok.mono (.refl _) hb (Nat.le_refl _) (hold _ (hltb i e he))
    · rw [hk] at hkk; cases hkk
      subst hE
      refine ⟨rfl, rfl, rfl, by simp; omega, by simp only; omega, c, elem, (0, 0), by simp, Nat.le_refl _, ?_, by simp, fun _ => rfl⟩
      have := hr.mono (.refl Cm) hb
      simp only [List.drop_zero]
      have e1 : c.toList.take cells.length = c.toList := by rw [hl, ← Array.length_toList, List.take_length]
      rw [e1]; exact this
  · intro b cc hcc
    obtain ⟨el, fr, hm⟩ := h.com b cc hcc
    exact ⟨el, fr, by rw [hold b (heap_lt hm)]; exact hm⟩
  · intro i j e e' k hij he he' hkk hf
    rcases hix i e he with ⟨hi, he1⟩ | ⟨hi, he1⟩ <;> rcases hix j e' he' with ⟨hj, he2⟩ | ⟨hj, he2⟩
    · exact h.dis i j e e' k hij he1 he2 hkk hf
    · have := hltb i e he1; rw [he2, hEb]; omega
    · have := hltb j e' he2; rw [he1, hEb]; omega
    · exact absurd (hi.trans hj.symm) hij
  · intro i e k he hkk hf
    rcases hix i e he with ⟨hi, he⟩ | ⟨rfl, rfl⟩
    · exact h.unc i e k he hkk hf
    · rw [hEb]
      cases hcm : Cm w.heap.size with
      | none => rfl
      | some cc => obtain ⟨el, fr, hm⟩ := h.com _ _ hcm; exact absurd (heap_lt hm) (by omega)

theorem Step.place {Cm0 : Com} {β0 : Bm} {s0 : St} {w0 : World} (hst : Step Cm0 β0 s0 w0 Cm β s w) {n : Nat} {E : Ent} {o : Obj} (hn : β0.length ≤ n) (hE : E.blk = w.heap.size) (hb : BLe β (β.set n (some E))) :
    Step Cm0 β0 s0 w0 Cm (β.set n (some E)) s { w with heap := w.heap.push o } := by
  refine ⟨hst.com, hst.ble.trans hb, hst.os, hst.tape, hst.output, by have := hst.size; simp; omega, fun b hb hno => ?_, fun b ho => ?_, hst.cnew, fun b hb => ?_⟩
  · have := hst.size
    show (w.heap.push _)[b]? = _
    rw [Array.getElem?_push, if_neg (by omega)]; exact hst.frame b hb hno
  · obtain ⟨i, e, k, h1, h2, h3, h4⟩ := ho
    by_cases hin : i = n
    · subst hin
      by_cases hl : i < β.length
      · simp [hl] at h1; subst h1
        have := hst.size; exact .inr (by omega)
      · rw [List.getElem?_eq_none (by simp; omega)] at h1; cases h1
    · rw [List.getElem?_set_ne (fun z => hin z.symm)] at h1
      exact hst.own b ⟨i, e, k, h1, h2, h3, h4⟩
  · obtain ⟨h1, h2⟩ := hst.unp b hb
    have := (List.getElem?_eq_some_iff.1 hb).1
    exact ⟨by rw [List.getElem?_set_ne (by omega)]; exact h1, h2⟩

theorem alloc_run (hC : CtxOk P C) {o : Oper} {t : TypeId} (ho : o.op = .alloc t) {z : EV} (hz : (C.ti t).bind zeroE = some z) (a : Act) (w : World) :
    ∃ zv : Value, ofZ zv = some z ∧ (execOp a.eval o).run P w = .ok (.value (.pointer (some ⟨w.heap.size, 0, none⟩))) { w with heap := w.heap.push (.cells zv.cells t (0, 0)) } := by
  obtain ⟨i, hi, hz⟩ := bind_some hz
  obtain ⟨zv, hzv, hz⟩ := bind_some hz
  refine ⟨zv, hz, ?_⟩
  rw [execOp, ho]
  simp [Instr.alloc, run_zero hC hi hzv, newVar, newRow]

theorem tmKill_size (tm : Tm) : ∀ l, (tmKill tm l).size = tm.size
  | [] => rfl
  | t :: l => by rw [tmKill, tmKill_size _ l, tmSet_size]

theorem tmKill_get : ∀ (l : List Nat) {tm : Tm} {d : Nat}, Deep d tm.t → tm.size ≤ 2 ^ d → ∀ u, tmGet (tmKill tm l) u = if u ∈ l ∧ u < tm.size then .dead else tmGet tm u
  | [], tm, d, _, _, u => by simp [tmKill]
  | t :: l, tm, d, hd, hs, u => by
    have hd' : Deep d (tmSet tm t .dead).t := by
      unfold tmSet; split
      · exact Deep.set _ _ hd
      · exact hd
    rw [tmKill, tmKill_get l hd' (by rw [tmSet_size]; exact hs) u, tmSet_size, tmGet_tmSet hd hs]
    by_cases h1 : u ∈ l ∧ u < tm.size
    · rw [if_pos h1, if_pos ⟨by simp [h1.1], h1.2⟩]
    · rw [if_neg h1]
      by_cases h2 : u = t ∧ t < tm.size
      · rw [if_pos h2, if_pos ⟨by simp [h2.1], by rw [h2.1]; exact h2.2⟩]
      · rw [if_neg h2, if_neg ?_]
        rintro ⟨h3, h4⟩
        simp only [List.mem_cons] at h3
        rcases h3 with rfl | h3
        · exact h2 ⟨rfl, h4⟩
        · exact h1 ⟨h3, h4⟩

/-- The slots that an operation does not look at are given up. -/
def mask (ops : List Oper) (o : Oper) (tm : Tm) : Tm := tmKill tm ((List.range tm.size).filter fun t => !(looks ops o).contains t)

theorem mask_get {ops : List Oper} {o : Oper} {d : Nat} (hd : Deep d tm.t) (hs : tm.size ≤ 2 ^ d) {t : Nat} (ht : t ∈ looks ops o) : tmGet (mask ops o tm) t = tmGet tm t := by
  unfold mask
  rw [tmKill_get _ hd hs, if_neg]
  rintro ⟨h1, _⟩
  rw [List.mem_filter] at h1
  simp [ht] at h1

theorem mask_dead {ops : List Oper} {o : Oper} {d : Nat} (hd : Deep d tm.t) (hs : tm.size ≤ 2 ^ d) {t : Nat} (ht : t ∉ looks ops o) (hlt : t < tm.size) : tmGet (mask ops o tm) t = .dead := by
  unfold mask
  rw [tmKill_get _ hd hs, if_pos]
  exact ⟨List.mem_filter.2 ⟨List.mem_range.2 hlt, by simpa using ht⟩, hlt⟩

theorem Deep.kill : ∀ (l : List Nat) {tm : Tm} {d : Nat}, Deep d tm.t → Deep d (tmKill tm l).t
  | [], _, _, h => h
  | t :: l, tm, d, h => by
    refine Deep.kill l ?_
    unfold tmSet; split
    · exact Deep.set _ _ h
    · exact h

theorem mask_ok {ops : List Oper} {o : Oper} {d : Nat} (hd : Deep d tm.t) (hs : tm.size ≤ 2 ^ d) (hsz : tm.size = a.tmps.size) (h : ∀ t, t ∈ looks ops o → t < tm.size → Rep Cm β (tmGet tm t) (a.tmps.getD t undef)) : TmOk Cm β (mask ops o tm) a.tmps := by
  refine ⟨by rw [mask, tmKill_size]; exact hsz, ⟨d, hd.kill _, by rw [mask, tmKill_size]; exact hs⟩, fun t ht => ?_⟩
  by_cases hm : t ∈ looks ops o
  · rw [mask_get hd hs hm]; exact h t hm (by rw [hsz]; exact ht)
  · rw [mask_dead hd hs hm (by rw [hsz]; exact ht)]; exact .dead _

theorem mask_eval {ops : List Oper} {o : Oper} {d : Nat} (hd : Deep d tm.t) (hs : tm.size ≤ 2 ^ d) : ∀ x ∈ o.op.operands.toList, evalO C (mask ops o tm) x = evalO C tm x := by
  intro x hx
  cases x with
  | tmp t =>
    simp only [evalO]
    rw [mask_get hd hs]
    unfold looks tmpsOf
    refine List.mem_append_left _ (List.mem_filterMap.2 ⟨.tmp t, hx, rfl⟩)
  | const c => rfl
  | global g => rfl
  | func f => rfl

theorem mask_wanted {ops : List Oper} {o : Oper} {d : Nat} (hd : Deep d tm.t) (hs : tm.size ≤ 2 ^ d) : wantedE ops (mask ops o tm) o = wantedE ops tm o := by
  unfold wantedE
  split
  · rfl
  · rename_i g want hg
    split
    · rename_i t ht
      rw [mask_get hd hs]
      unfold looks
      refine List.mem_append_right _ ?_
      rw [hg]
      simp only []
      rw [ht]
      simp
    · rfl
end
end Go.Ev
