/- Functions that are answered otherwise (1): those without a body. -/
import Derived.Test.YtnnebeidpkaobaaGreatDoorEvCtx
import Derived.Lib.Bytealg
import Derived.Laws.Externs
import Derived.Room.MakeNoZero
set_option linter.unusedVariables false
set_option linter.unusedSimpArgs false
set_option linter.unusedSectionVars false
namespace Go.Ev
open Go
set_option linter.unusedSectionVars false
set_option linter.unusedVariables false

/-- A function without a body, and its row. -/
structure IsExt (P : Program) (f : FuncId) (e : Array Value → Sem Value) : Prop where
  ex : ∃ fn, P.funcs[f]? = some fn ∧ (fn.name == "runtime.NumGoroutine") = false ∧ fn.body.isNone = true ∧ Extern.findNext fn = none ∧ Extern.find fn = some e

theorem IsExt.run {P : Program} {f : FuncId} {e : Array Value → Sem Value} (h : IsExt P f e) (A : Array Value) {w w' : World} {V : Value} (hr : (e A).run P w = .ok V w') : (callFunc f A).run P w = .ok (.value V) w' := by
  obtain ⟨fn, h1, h2, h3, h4, h5⟩ := h.ex
  rw [run_callFunc_extern h1 h2 h3 h4 h5, hr]
  rfl

section
variable {P : Program} {C : Ctx} {Cm : Com} {β : Bm} {s s' : St} {w : World} {v : EV}

theorem prim_cmp {f : FuncId} (hx : IsExt P f Extern.BytealgCompare.compare) (h : SInv Cm β s w) {a b : ByteArray} {A : Array Value} (hr : RepL Cm β [.str a, .str b] A.toList) :
    FRuns P f A w (Post Cm β s w (.int .i64 (Lib.compareBytes a.data.toList b.data.toList)) s) := by
  obtain ⟨X, Y, hA, hX, hY⟩ := repl_two rfl hr
  cases hX; cases hY
  rw [array_of_list hA]
  exact .inr ⟨_, w, hx.run _ (Lib.run_compareString a b w), post_pure h (.int _ _)⟩

theorem RepL.dead : ∀ (L : List Value), RepL Cm β (List.replicate L.length .dead) L
  | [] => .nil
  | V :: L => .cons (.dead V) (RepL.dead L)

theorem prim_make (hC : CtxOk P C) {f : FuncId} {ps : Array TypeId} {t e : TypeId} (ht : P.underlying t = some (.slice e)) (hx : IsExt P f (Extern.BytealgMakeNoZero.makeNoZero ps #[t])) (h : SInv Cm β s w) {n : Int} (h0 : 0 ≤ n) (h1 : n ≤ 2 ^ 44) {A : Array Value} (hr : RepL Cm β [.int .i64 n] A.toList) :
    FRuns P f A w (Post Cm β s w (.sref s.h.length 0 0 n.toNat 1) (newBlk s true (List.replicate n.toNat .dead)).2) := by
  obtain ⟨X, hA, hX⟩ := repl_one rfl hr
  cases hX
  rw [array_of_list hA]
  obtain ⟨m, rfl⟩ := Int.eq_ofNat_of_zero_le h0
  simp only [Int.toNat_natCast]
  obtain ⟨cs, hrun, hle, _, _⟩ := Lib.run_makeNoZero_cap (P := P) w ps t e ht m (by omega)
  refine .inr ⟨_, _, hx.run _ hrun, ?_⟩
  refine post_arr h (elem := e) (c := cs) ?_ rfl rfl rfl rfl hle (by simp; exact hle) (by simp)
  have : (cs.toList.take (List.replicate m EV.dead).length).length = m := by simp; omega
  have hd := RepL.dead (Cm := Cm) (β := β) (cs.toList.take (List.replicate m EV.dead).length)
  rw [this] at hd
  exact hd
end
end Go.Ev
