/- Loops over frames that are told slot by slot. -/
import Derived.Test.YtnnebeidpkaobaaGreatDoorEvStep
set_option linter.unusedVariables false
set_option linter.unusedSimpArgs false
set_option linter.unusedSectionVars false
namespace Go.Ev
open Go
set_option linter.unusedSectionVars false
set_option linter.unusedVariables false

/-- A frame of n slots, slot by slot. -/
def canonL (g : Nat → EV) : Nat → Nat → List (Nat × EV)
  | _, 0 => []
  | i, n + 1 => (i, g i) :: canonL g (i + 1) n

theorem sget_canonL (g : Nat → EV) : ∀ (n i j : Nat), i ≤ j → j < i + n → sget (canonL g i n) j = g j
  | 0, i, j, h, k => by omega
  | n + 1, i, j, h, k => by
    simp only [canonL, sget]
    by_cases e : i = j
    · subst e; simp
    · have : Nat.beq i j = false := by
        cases hb : Nat.beq i j with
        | false => rfl
        | true => exact absurd (Nat.eq_of_beq_eq_true hb) e
      rw [this]
      exact sget_canonL g n (i + 1) j (by omega) (by omega)

section
variable {C : Ctx} {prim : CallE → Nat → FuncId → List EV → St → Option (EV × St)} {f n0 n rid i d : Nat} {tm : Tm} {s s' : St} {l : List (Nat × EV)} {R R' : Ex → List (Nat × EV) → St → Prop}

theorem TmIs.canon (h : TmIs tm n l) : TmIs tm n (canonL (sget l) 0 n) :=
  ⟨h.1, h.2.1, fun j hj => by rw [h.2.2 j hj, sget_canonL _ _ _ _ (Nat.zero_le _) (by omega)]⟩

theorem Wc.canon {c : Code} (h : Wc C prim f n0 n c (canonL (sget l) 0 n) s R) : Wc C prim f n0 n c l s R := fun tm ht => h tm ht.canon

/-- A loop: what holds of the slots ahead of each round. -/
theorem Wc.loopC {b : Code} (I : Nat → (Nat → EV) → St → Prop) (m : Nat) (h0 : I m (sget l) s) (round : ∀ m g s, I m g s → Wc C prim f n0 n b (canonL g 0 n) s (thenR (fun l s' => ∃ m', m' < m ∧ I m' (sget l) s') R)) : Wc C prim f n0 n (.loop b) l s R :=
  .loop (fun m l s => I m (sget l) s) m h0 fun m l s hI => .canon (round m (sget l) s hI)

theorem Wc.sq {a b : Code} (h : Wc C prim f n0 n a l s (thenR (fun l s => Wc C prim f n0 n b l s R) R)) : Wc C prim f n0 n (.seq a b) l s R := .seq h

/-- A value that a prim answers. -/
theorem Ev.ofPrim {f k : Nat} {args : List EV} {v : EV} (hk : C.prim f = some k) (h : ∃ N, ∀ n, N ≤ n → prim (callE C prim n) k f args s = some (v, s')) : Ev C prim f args s v s' := by
  obtain ⟨N, h⟩ := h
  refine ⟨N + 1, fun n hn => ?_⟩
  obtain ⟨n, rfl⟩ : ∃ n', n = n' + 1 := ⟨n - 1, by omega⟩
  simp only [callE, hk]
  exact h n (by omega)

/-- A function that is handed references, or may hand some back: one result. -/
theorem Ev.full1 {f : FuncId} {fn : Func} {c : Code} {args : List EV} {s s1 : St} {v : EV} (hp : C.prim f = none) (hf : C.fn f = some fn) (hb : fn.body = some c) (hpu : (C.pure f && Nat.beq (refsL args) 0) = false) (hrr : C.retref f = false)
    (h : Wc C prim f s.h.length (max args.length fn.ntmps) c (enumE 0 args) s fun ex l s' => (∀ id, ex ≠ .exit id) ∧ ∃ v0 s2, resSL C (max args.length fn.ntmps) l s' fn.results.toList = some [v0] ∧ freezeV s' v0 = some (v, s2) ∧ cut s.h.length v s2 = s1) : Ev C prim f args s v s1 := by
  refine Ev.full hp hf hb hpu ((h _ (TmIs.new args _)).mono fun ex t s' ⟨l, h1, h2, v0, s2, h3, h4, h5⟩ => ⟨h2, ?_⟩)
  unfold finish
  rw [resSL_eq h1 h3]
  simp only [hrr, Bool.false_eq_true, if_false, h4, Option.map_some, h5]

/-- .. and none. -/
theorem Ev.full0 {f : FuncId} {fn : Func} {c : Code} {args : List EV} {s s1 : St} (hp : C.prim f = none) (hf : C.fn f = some fn) (hb : fn.body = some c) (hpu : (C.pure f && Nat.beq (refsL args) 0) = false) (hrr : C.retref f = false) (hres : fn.results.toList = [])
    (h : Wc C prim f s.h.length (max args.length fn.ntmps) c (enumE 0 args) s fun ex l s' => (∀ id, ex ≠ .exit id) ∧ cut s.h.length (.tup []) s' = s1) : Ev C prim f args s (.tup []) s1 := by
  refine Ev.full hp hf hb hpu ((h _ (TmIs.new args _)).mono fun ex t s' ⟨l, h1, h2, h5⟩ => ⟨h2, ?_⟩)
  unfold finish
  rw [hres]
  simp only [resAll, hrr, Bool.false_eq_true, if_false, freezeL, Option.map_some, h5]
end
end Go.Ev
