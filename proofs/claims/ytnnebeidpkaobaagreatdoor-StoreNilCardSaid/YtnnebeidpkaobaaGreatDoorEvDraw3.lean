/- Regions that draw their order (3): any order comes to the same. -/
import Derived.Test.YtnnebeidpkaobaaGreatDoorEvDraw2
set_option linter.unusedVariables false
set_option linter.unusedSimpArgs false
set_option linter.unusedSectionVars false
namespace Go.Ev
open Go
set_option linter.unusedSectionVars false
set_option linter.unusedVariables false

theorem bytes_ext {a b : ByteArray} (h : a.data.toList = b.data.toList) : a = b := by
  cases a; cases b; simp at h; rw [h]

mutual
theorem EV.beq_eq : ∀ {a b : EV}, a.beq b = true → a = b
  | .bool a, .bool b, h => by simp [EV.beq] at h; rw [h]
  | .int k a, .int j b, h => by simp [EV.beq] at h; rw [h.1, h.2]
  | .str a, .str b, h => by simp only [EV.beq, beq_iff_eq] at h; exact congrArg EV.str (bytes_ext h)
  | .nilptr, .nilptr, _ => rfl
  | .ptr b g o, .ptr b' g' o', h => by simp [EV.beq] at h; rw [h.1.1, h.1.2, h.2]
  | .cptr m a, .cptr n b, h => by simp [EV.beq] at h; rw [h.1, beqL_eq h.2]
  | .nilsl, .nilsl, _ => rfl
  | .esl, .esl, _ => rfl
  | .sl m r z a, .sl n q y b, h => by simp [EV.beq] at h; rw [h.1.1.1, h.1.1.2, h.1.2, beqLL_eq h.2]
  | .sref b g o n s, .sref b' g' o' n' s', h => by simp [EV.beq] at h; rw [h.1.1.1.1, h.1.1.1.2, h.1.1.2, h.1.2, h.2]
  | .fn f a b, .fn f' a' b', h => by simp [EV.beq] at h; rw [h.1.1, beqL_eq h.1.2, beqL_eq h.2]
  | .nilfn, .nilfn, _ => rfl
  | .iface t v, .iface t' v', h => by simp [EV.beq] at h; rw [h.1, EV.beq_eq h.2]
  | .niliface, .niliface, _ => rfl
  | .agg a, .agg b, h => by simp [EV.beq] at h; rw [beqL_eq h]
  | .tup a, .tup b, h => by simp [EV.beq] at h; rw [beqL_eq h]
  | .dead, .dead, _ => rfl
theorem beqL_eq : ∀ {a b : List EV}, beqL a b = true → a = b
  | [], [], _ => rfl
  | a :: as, b :: bs, h => by simp [beqL] at h; rw [EV.beq_eq h.1, beqL_eq h.2]
theorem beqLL_eq : ∀ {a b : List (List EV)}, beqLL a b = true → a = b
  | [], [], _ => rfl
  | a :: as, b :: bs, h => by simp [beqLL] at h; rw [beqL_eq h.1, beqLL_eq h.2]
end

section
variable {C : Ctx} {call : CallE} {f rid : Nat} {ops : List Oper}

theorem readsOk_some {ms : List Nat} {hs : List St} : ∀ {rds : List Rd}, readsOk C call f rid ops ms hs rds = true → ∀ r ∈ rds, ∀ (k : Nat) (S : St), hs[k]? = some S →
    (window (C.mutated f rid) ops ms r.idx).1 ≤ k → k ≤ (window (C.mutated f rid) ops ms r.idx).2 → ∃ s3, opE C call f rid r.idx r.o r.tm S = some (r.v, s3)
  | [], _, r, hr => by simp at hr
  | r0 :: rds, h, r, hr => by
    intro k S hk h1 h2
    simp only [readsOk, Bool.and_eq_true] at h
    simp only [List.mem_cons] at hr
    rcases hr with rfl | hr
    · have hm : S ∈ (hs.take ((window (C.mutated f rid) ops ms r.idx).2 + 1)).drop (window (C.mutated f rid) ops ms r.idx).1 := by
        refine List.mem_of_getElem? (i := k - (window (C.mutated f rid) ops ms r.idx).1) ?_
        rw [List.getElem?_drop, List.getElem?_take, if_pos (by omega)]
        rw [show (window (C.mutated f rid) ops ms r.idx).1 + (k - (window (C.mutated f rid) ops ms r.idx).1) = k by omega]
        exact hk
      have := List.all_eq_true.1 h.1 S hm
      split at this
      · rename_i v s3 hv
        have := EV.beq_eq this
        subst this
        exact ⟨s3, hv⟩
      · cases this
    · exact readsOk_some h.2 r hr k S hk h1 h2

/-- What the check of a drawn region gives. -/
structure DrawOk (H : Nat → Bool) (ops : List Oper) : Prop where
  back : ∀ (j : Nat) (o : Oper), ops[j]? = some o → ∀ e ∈ o.after.toList, anyBind e = true → e.on < j
  guard : ∀ (j : Nat) (o : Oper), ops[j]? = some o → isAlloc o = true → o.guard = none
  meet : ∀ (i j : Nat) (x y : Oper), i < j → ops[i]? = some x → ops[j]? = some y → meets H ops i j x y = true → ahead (masks ops []) i j = true

theorem drawOk_some {H : Nat → Bool} (h : drawOk H ops (masks ops []) = true) : DrawOk H ops := by
  unfold drawOk at h
  rw [List.all_eq_true] at h
  have key : ∀ (j : Nat) (y : Oper), ops[j]? = some y → ((y.after.toList.all fun e => !anyBind e || decide (e.on < j)) && (!isAlloc y || y.guard.isNone) &&
      (List.range j).all fun i => match ops[i]? with
        | some x => !meets H ops i j x y || ahead (masks ops []) i j
        | none => true) = true := by
    intro j y hy
    have hlt : j < ops.length := (List.getElem?_eq_some_iff.1 hy).1
    have := h j (List.mem_range.2 hlt)
    rw [hy] at this
    exact this
  refine ⟨fun j o ho e he hb => ?_, fun j o ho ha => ?_, fun i j x y hij hx hy hm => ?_⟩
  · have := key j o ho
    simp only [Bool.and_eq_true, List.all_eq_true] at this
    have := this.1.1 e he
    simpa [hb] using this
  · have := key j o ho
    simp only [Bool.and_eq_true] at this
    have := this.1.2
    simpa [ha] using this
  · have := key j y hy
    simp only [Bool.and_eq_true, List.all_eq_true] at this
    have := this.2 i (List.mem_range.2 hij)
    rw [hx] at this
    simpa [hm] using this

/- Which slots hold what, behind the operations that are listed. -/

def curUp (ops : List Oper) (F : Nat → Pt) (L : Nat → Bool) (t : Nat) : Nat → EV
  | 0 => tmGet (F 0).tm t
  | k + 1 => if L k = true ∧ ((ops[k]?).bind (·.dst)) = some t then tmGet (F (k + 1)).tm t else curUp ops F L t k

section
variable {F : Nat → Pt} {L : Nat → Bool} {t : Nat} {sz : Nat}
variable (hput : ∀ (j : Nat) (o : Oper), ops[j]? = some o → (F (j + 1)).tm = putE (F j).tm o.dst (F j).v)
variable (hdeep : ∀ j, j ≤ ops.length → (∃ d, Deep d (F j).tm.t ∧ (F j).tm.size ≤ 2 ^ d) ∧ (F j).tm.size = sz)
include hput hdeep

theorem put_other {j : Nat} {o : Oper} (ho : ops[j]? = some o) (hd : o.dst ≠ some t) : tmGet (F (j + 1)).tm t = tmGet (F j).tm t := by
  rw [hput j o ho]
  have hlt : j < ops.length := (List.getElem?_eq_some_iff.1 ho).1
  obtain ⟨⟨d, h1, h2⟩, _⟩ := hdeep j (by omega)
  cases hdst : o.dst with
  | none => rfl
  | some u =>
    simp only [putE]
    rw [tmGet_tmSet h1 h2, if_neg (fun h => hd (by rw [hdst, h.1]))]

theorem put_this {j : Nat} {o : Oper} (ho : ops[j]? = some o) (hd : o.dst = some t) (ht : t < sz) : tmGet (F (j + 1)).tm t = (F j).v := by
  rw [hput j o ho]
  have hlt : j < ops.length := (List.getElem?_eq_some_iff.1 ho).1
  obtain ⟨⟨d, h1, h2⟩, h3⟩ := hdeep j (by omega)
  rw [hd]
  simp only [putE]
  rw [tmGet_tmSet h1 h2, if_pos ⟨rfl, by omega⟩]

theorem curUp_text {m : Nat} (hm : m ≤ ops.length) (hall : ∀ (k : Nat) (o : Oper), k < m → ops[k]? = some o → o.dst = some t → L k = true) : ∀ k, k ≤ m → curUp ops F L t k = tmGet (F k).tm t := by
  intro k
  induction k with
  | zero => intro _; rfl
  | succ k ih =>
    intro hk
    have hlt : k < ops.length := by omega
    have ho := List.getElem?_eq_getElem hlt
    simp only [curUp]
    by_cases hd : ops[k].dst = some t
    · rw [if_pos ⟨hall k _ (by omega) ho hd, by rw [ho]; exact hd⟩]
    · rw [if_neg (fun h => hd (by have := h.2; rw [ho] at this; exact this)), ih (by omega)]
      exact (put_other hput hdeep ho hd).symm
end

theorem curUp_stop {F : Nat → Pt} {L : Nat → Bool} {t m : Nat} (hno : ∀ (k : Nat) (o : Oper), m ≤ k → ops[k]? = some o → o.dst = some t → L k = false) : ∀ n, m ≤ n → curUp ops F L t n = curUp ops F L t m := by
  intro n
  induction n with
  | zero => intro h; rw [show m = 0 by omega]
  | succ n ih =>
    intro h
    by_cases e : m = n + 1
    · rw [e]
    · simp only [curUp]
      rw [if_neg ?_, ih (by omega)]
      rintro ⟨h1, h2⟩
      cases ho : ops[n]? with
      | none => rw [ho] at h2; cases h2
      | some o =>
        rw [ho] at h2
        have := hno n o (by omega) ho h2
        rw [h1] at this; cases this

theorem curUp_congr {F : Nat → Pt} {L L' : Nat → Bool} {t j : Nat} (hne : ∀ k, k ≠ j → L k = L' k) : ∀ n, (n ≤ j ∨ ((ops[j]?).bind (·.dst)) ≠ some t) → curUp ops F L t n = curUp ops F L' t n := by
  intro n
  induction n with
  | zero => intro _; rfl
  | succ n ih =>
    intro h
    simp only [curUp]
    rw [ih (by rcases h with h | h; exact .inl (by omega); exact .inr h)]
    by_cases e : n = j
    · subst e
      rcases h with h | h
      · omega
      · rw [if_neg (fun z => h z.2), if_neg (fun z => h z.2)]
    · rw [hne n e]
end
end Go.Ev
