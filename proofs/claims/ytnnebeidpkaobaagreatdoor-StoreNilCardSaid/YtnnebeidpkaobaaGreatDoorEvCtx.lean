/- The evaluator's context of a program. -/
import Derived.Test.YtnnebeidpkaobaaGreatDoorEvEq
set_option linter.unusedVariables false
set_option linter.unusedSimpArgs false
set_option linter.unusedSectionVars false
namespace Go.Ev
open Go

/-- What is told of a program's functions. -/
structure Ann where
  mutated : FuncId → Nat → Nat → Bool
  byref : FuncId → Bool
  retref : FuncId → Bool
  refTy : TypeId → Bool
  prim : FuncId → Option Nat
  kill : FuncId → Nat → Option (List Nat)
  pure : FuncId → Bool

def mkC (P : Program) (A : Ann) : Ctx where
  ti := fun t => match P.info? t, P.underlying t with
    | some i, some d => some { desc := d, size := i.size, bytes := i.bytes, zero := i.zero, eqKs := match d with | .struct _ => eqTy P 20 t | .array _ _ => eqTy P 20 t | _ => none }
    | _, _ => none
  fn := fun f => P.funcs[f]?
  mutated := A.mutated
  byref := A.byref
  retref := A.retref
  refTy := A.refTy
  prim := A.prim
  glob := fun _ => none
  kill := A.kill
  pure := A.pure

/-- A function of usual size, and no special one. -/
def fnUsual (fn : Func) : Bool := Nat.ble fn.ntmps 4000 && fn.name != "runtime.NumGoroutine"

theorem mkC_ok {P : Program} {A : Ann} (h20 : Nat.ble 20 P.depth = true) (hf : P.funcs.toList.all fnUsual = true) (ho : P.follows .mixedOrders = true) : CtxOk P (mkC P A) where
  ti := fun t i h => by
    simp only [mkC] at h
    split at h
    · rename_i x d hx hd
      cases h
      exact ⟨hd, x, hx, rfl, rfl, rfl⟩
    · cases h
  glob := fun g => rfl
  fn := fun f fn h => by
    have hm : fn ∈ P.funcs.toList := Array.mem_toList_iff.2 (Array.mem_of_getElem? h)
    have := List.all_eq_true.1 hf fn hm
    simp only [fnUsual, Bool.and_eq_true] at this
    exact ⟨h, Nat.le_of_ble_eq_true this.1, by simpa using this.2⟩
  orders := ho
  eq := fun t i h ks hks xs ys X Y Cm β b w hx hy hc => by
    simp only [mkC] at h
    split at h
    · rename_i x d hxi hd
      cases h
      simp only at hks
      split at hks
      · rename_i fs
        exact eq_ok (Nat.le_of_ble_eq_true h20) hd hks xs ys X Y Cm β b w hx hy hc
      · exact eq_ok_array (Nat.le_of_ble_eq_true h20) hd hks xs ys X Y Cm β b w hx hy hc
      · cases hks
    · cases h
end Go.Ev
