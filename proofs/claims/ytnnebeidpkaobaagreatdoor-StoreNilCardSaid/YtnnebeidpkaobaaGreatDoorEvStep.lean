/- Stepping over operations with values that are not known. -/
import Derived.Test.YtnnebeidpkaobaaGreatDoorEvMono
set_option linter.unusedVariables false
set_option linter.unusedSimpArgs false
set_option linter.unusedSectionVars false
namespace Go.Ev
open Go
set_option linter.unusedSectionVars false
set_option linter.unusedVariables false

/-- An operand's value, over what was put. -/
def evalS (l : List (Nat × EV)) : Operand → Option EV
  | .tmp t => some (sget l t)
  | .const v => ofV v
  | .global _ => none
  | .func f => some (.fn (.func f) [] [])

/-- Is the operation wanted? -/
def wantS (ops : List Oper) (l : List (Nat × EV)) : Option (Nat × Bool) → Option Bool
  | none => some true
  | some (j, want) => match (ops[j]?).bind (·.dst) with
    | some d => match sget l d with
      | .bool b => some (b == want)
      | .dead => none
      | _ => some false
    | none => some false

/-- All slots that are named lie in the frame. -/
def inFrame (n : Nat) : Operand → Bool
  | .tmp t => Nat.ble (Nat.succ t) n
  | .global _ => false
  | _ => true

section
variable {C : Ctx} {prim : CallE → Nat → FuncId → List EV → St → Option (EV × St)} {f n0 n rid i d : Nat} {tm : Tm} {s s' : St} {l : List (Nat × EV)} {ops rest : List Oper} {Q : Tm → St → Prop}

theorem evalS_eq (h : TmIs tm n l) {x : Operand} (hx : inFrame n x = true) {v : EV} (hv : evalS l x = some v) : evalO C tm x = some v := by
  cases x with
  | tmp t => simp only [evalS, Option.some.injEq] at hv; subst hv; simp only [evalO]; rw [h.get hx]
  | const c => exact hv
  | global g => cases hx
  | func g => exact hv

theorem wantS_eq (h : TmIs tm n l) {o : Oper} {b : Bool} (hw : wantS ops l o.guard = some b) (hf : ∀ j want, o.guard = some (j, want) → ∀ d, (ops[j]?).bind (·.dst) = some d → d < n) : wantedE ops tm o = some b := by
  unfold wantedE
  unfold wantS at hw
  cases hg : o.guard with
  | none => rw [hg] at hw; exact hw
  | some jw =>
    obtain ⟨j, want⟩ := jw
    rw [hg] at hw
    simp only [] at hw ⊢
    cases hd : (ops[j]?).bind (·.dst) with
    | none => rw [hd] at hw; exact hw
    | some d =>
      rw [hd] at hw
      simp only [] at hw ⊢
      rw [h.get (Nat.ble_eq_true_of_le (hf j want hg d hd))]
      exact hw

/-- All slots that a region's operations set lie in the frame. -/
def dstsIn (n : Nat) : List Oper → Bool
  | [] => true
  | o :: os => (match o.dst with | some d => Nat.ble (Nat.succ d) n | none => true) && dstsIn n os

theorem dstsIn_get : ∀ {os : List Oper}, dstsIn n os = true → ∀ (j d : Nat), (os[j]?).bind (·.dst) = some d → d < n
  | [], _, j, d, hd => by simp at hd
  | o :: os, h, j, d, hd => by
    simp only [dstsIn, Bool.and_eq_true] at h
    cases j with
    | zero =>
      simp at hd
      rw [hd] at h
      exact Nat.le_of_ble_eq_true h.1
    | succ j => exact dstsIn_get h.2 j d (by simpa using hd)

/-- A walk over operations: the frame is known by what was put. -/
structure Wk (C : Ctx) (prim : CallE → Nat → FuncId → List EV → St → Option (EV × St)) (f rid n : Nat) (ops : List Oper) (i : Nat) (rest : List Oper) (l : List (Nat × EV)) (s : St) (Q : Tm → St → Prop) : Prop where
  go : ∀ tm, TmIs tm n l → Wo C prim f rid ops i rest tm s Q

theorem Wk.nil (h : ∀ tm, TmIs tm n l → Q tm s) : Wk C prim f rid n ops i [] l s Q := ⟨fun tm ht => .nil (h tm ht)⟩

theorem Wk.op {o : Oper} {v : EV} (hin : dstsIn n ops = true) (hw : wantS ops l o.guard = some true) (ho : ∀ tm, TmIs tm n l → ∀ call, opE C call f rid i o tm s = some (v, s')) (hd : o.dst = some d) (hdn : Nat.ble (Nat.succ d) n = true)
    (k : Wk C prim f rid n ops (i + 1) rest ((d, v) :: l) s' Q) : Wk C prim f rid n ops i (o :: rest) l s Q :=
  ⟨fun tm ht => .op (wantS_eq ht hw fun j _ _ d hd => dstsIn_get hin j d hd) (ho tm ht) (by rw [hd]; exact k.go _ (ht.put hdn))⟩

theorem Wk.op0 {o : Oper} {v : EV} (hin : dstsIn n ops = true) (hw : wantS ops l o.guard = some true) (ho : ∀ tm, TmIs tm n l → ∀ call, opE C call f rid i o tm s = some (v, s')) (hd : o.dst = none)
    (k : Wk C prim f rid n ops (i + 1) rest l s' Q) : Wk C prim f rid n ops i (o :: rest) l s Q :=
  ⟨fun tm ht => .op (wantS_eq ht hw fun j _ _ d hd => dstsIn_get hin j d hd) (ho tm ht) (by rw [hd]; exact k.go _ ht)⟩

theorem Wk.skip {o : Oper} (hin : dstsIn n ops = true) (hw : wantS ops l o.guard = some false) (hd : o.dst = some d) (hdn : Nat.ble (Nat.succ d) n = true)
    (k : Wk C prim f rid n ops (i + 1) rest ((d, undefE) :: l) s Q) : Wk C prim f rid n ops i (o :: rest) l s Q :=
  ⟨fun tm ht => .skip (wantS_eq ht hw fun j _ _ d hd => dstsIn_get hin j d hd) (by rw [hd]; exact k.go _ (ht.put hdn))⟩
theorem Wk.move {ty : TypeId} {pos : String} {after : Array Edge} {g : Option (Nat × Bool)} {x : Operand} {v : EV} (hin : dstsIn n ops = true) (hw : wantS ops l g = some true) (hxi : inFrame n x = true) (hx : evalS l x = some v) (hdn : Nat.ble (Nat.succ d) n = true)
    (k : Wk C prim f rid n ops (i + 1) rest ((d, v) :: l) s Q) : Wk C prim f rid n ops i (⟨some d, .move x, ty, pos, after, g⟩ :: rest) l s Q :=
  .op (s' := s) (v := v) hin hw (fun tm ht call => by
    simp only [opE, evalS_eq ht hxi hx, just]) rfl hdn k

theorem Wk.assign {ty : TypeId} {pos : String} {after : Array Edge} {g : Option (Nat × Bool)} {x : Operand} {v : EV} (hin : dstsIn n ops = true) (hw : wantS ops l g = some true) (hxi : inFrame n x = true) (hx : evalS l x = some v) (hdn : Nat.ble (Nat.succ d) n = true)
    (k : Wk C prim f rid n ops (i + 1) rest ((d, v) :: l) s Q) : Wk C prim f rid n ops i (⟨some d, .assign x, ty, pos, after, g⟩ :: rest) l s Q :=
  .op (s' := s) (v := v) hin hw (fun tm ht call => by
    simp only [opE, evalS_eq ht hxi hx, just]) rfl hdn k

theorem Wk.pickT {ty : TypeId} {pos : String} {after : Array Edge} {g : Option (Nat × Bool)} {c x y : Operand} {v : EV} (hin : dstsIn n ops = true) (hw : wantS ops l g = some true) (hci : inFrame n c = true) (hc : evalS l c = some (.bool true)) (hxi : inFrame n x = true) (hx : evalS l x = some v) (hdn : Nat.ble (Nat.succ d) n = true)
    (k : Wk C prim f rid n ops (i + 1) rest ((d, v) :: l) s Q) : Wk C prim f rid n ops i (⟨some d, .pick c x y, ty, pos, after, g⟩ :: rest) l s Q :=
  .op (s' := s) (v := v) hin hw (fun tm ht call => by
    simp only [opE, pickE, evalS_eq ht hci hc, evalS_eq ht hxi hx, just]) rfl hdn k

theorem Wk.pickF {ty : TypeId} {pos : String} {after : Array Edge} {g : Option (Nat × Bool)} {c x y : Operand} {v : EV} (hin : dstsIn n ops = true) (hw : wantS ops l g = some true) (hci : inFrame n c = true) (hc : evalS l c = some (.bool false)) (hxi : inFrame n y = true) (hx : evalS l y = some v) (hdn : Nat.ble (Nat.succ d) n = true)
    (k : Wk C prim f rid n ops (i + 1) rest ((d, v) :: l) s Q) : Wk C prim f rid n ops i (⟨some d, .pick c x y, ty, pos, after, g⟩ :: rest) l s Q :=
  .op (s' := s) (v := v) hin hw (fun tm ht call => by
    simp only [opE, pickE, evalS_eq ht hci hc, evalS_eq ht hxi hx, just]) rfl hdn k

theorem Wk.alloc {ty : TypeId} {pos : String} {after : Array Edge} {g : Option (Nat × Bool)} {t : TypeId} {z : EV} (hin : dstsIn n ops = true) (hw : wantS ops l g = some true) (hz : (C.ti t).bind zeroE = some z) (hdn : Nat.ble (Nat.succ d) n = true)
    (k : Wk C prim f rid n ops (i + 1) rest ((d, .ptr s.h.length 0 0) :: l) (newBlk s false z.cells).2 Q) : Wk C prim f rid n ops i (⟨some d, .alloc t, ty, pos, after, g⟩ :: rest) l s Q :=
  .op (s' := (newBlk s false z.cells).2) (v := .ptr s.h.length 0 0) hin hw (fun tm ht call => by
    simp only [opE, allocE, hz]) rfl hdn k

theorem Wk.box {ty : TypeId} {pos : String} {after : Array Edge} {g : Option (Nat × Bool)} {t : TypeId} {j : TI} {x : Operand} {v v' : EV} {s1 : St} (hin : dstsIn n ops = true) (hw : wantS ops l g = some true) (hj : C.ti t = some j) (hxi : inFrame n x = true) (hx : evalS l x = some v) (hf : freezeV s v = some (v', s1)) (hl : v'.cells.length = j.size) (hdn : Nat.ble (Nat.succ d) n = true)
    (k : Wk C prim f rid n ops (i + 1) rest ((d, .ptr s1.h.length 0 0) :: l) (newBlk s1 false v'.cells).2 Q) : Wk C prim f rid n ops i (⟨some d, .box t x, ty, pos, after, g⟩ :: rest) l s Q :=
  .op (s' := (newBlk s1 false v'.cells).2) (v := .ptr s1.h.length 0 0) hin hw (fun tm ht call => by
    simp only [opE, boxE, hj, evalS_eq ht hxi hx, Option.bind_some, hf, hl, if_true]) rfl hdn k

theorem Wk.load {ty : TypeId} {pos : String} {after : Array Edge} {g : Option (Nat × Bool)} {t : TypeId} {x : Operand} {a v : EV} (hin : dstsIn n ops = true) (hw : wantS ops l g = some true) (hxi : inFrame n x = true) (hx : evalS l x = some a) (hv : loadE C t a s = some v) (hdn : Nat.ble (Nat.succ d) n = true)
    (k : Wk C prim f rid n ops (i + 1) rest ((d, v) :: l) s Q) : Wk C prim f rid n ops i (⟨some d, .load t x, ty, pos, after, g⟩ :: rest) l s Q :=
  .op (s' := s) (v := v) hin hw (fun tm ht call => by
    simp only [opE, loadO, evalS_eq ht hxi hx, Option.bind_some, hv, just]) rfl hdn k

theorem Wk.fieldAddr {ty : TypeId} {pos : String} {after : Array Edge} {g : Option (Nat × Bool)} {t : TypeId} {x : Operand} {q : Nat} {a v : EV} (hin : dstsIn n ops = true) (hw : wantS ops l g = some true) (hxi : inFrame n x = true) (hx : evalS l x = some a) (hv : fieldAddrE C t a q = some v) (hdn : Nat.ble (Nat.succ d) n = true)
    (k : Wk C prim f rid n ops (i + 1) rest ((d, v) :: l) s Q) : Wk C prim f rid n ops i (⟨some d, .fieldAddr t x q, ty, pos, after, g⟩ :: rest) l s Q :=
  .op (s' := s) (v := v) hin hw (fun tm ht call => by
    simp only [opE, evalS_eq ht hxi hx, Option.bind_some, hv, just]) rfl hdn k

theorem Wk.field {ty : TypeId} {pos : String} {after : Array Edge} {g : Option (Nat × Bool)} {t : TypeId} {x : Operand} {q : Nat} {a v : EV} (hin : dstsIn n ops = true) (hw : wantS ops l g = some true) (hxi : inFrame n x = true) (hx : evalS l x = some a) (hv : fieldE C t a q = some v) (hdn : Nat.ble (Nat.succ d) n = true)
    (k : Wk C prim f rid n ops (i + 1) rest ((d, v) :: l) s Q) : Wk C prim f rid n ops i (⟨some d, .field t x q, ty, pos, after, g⟩ :: rest) l s Q :=
  .op (s' := s) (v := v) hin hw (fun tm ht call => by
    simp only [opE, evalS_eq ht hxi hx, Option.bind_some, hv, just]) rfl hdn k

theorem Wk.un {ty : TypeId} {pos : String} {after : Array Edge} {g : Option (Nat × Bool)} {op : UnOp} {t : TypeId} {x : Operand} {a v : EV} (hin : dstsIn n ops = true) (hw : wantS ops l g = some true) (hxi : inFrame n x = true) (hx : evalS l x = some a) (hv : unE op a = some v) (hdn : Nat.ble (Nat.succ d) n = true)
    (k : Wk C prim f rid n ops (i + 1) rest ((d, v) :: l) s Q) : Wk C prim f rid n ops i (⟨some d, .unOp op t x, ty, pos, after, g⟩ :: rest) l s Q :=
  .op (s' := s) (v := v) hin hw (fun tm ht call => by
    simp only [opE, evalS_eq ht hxi hx, Option.bind_some, hv, just]) rfl hdn k

theorem Wk.bin {ty : TypeId} {pos : String} {after : Array Edge} {g : Option (Nat × Bool)} {op : BinOp} {t yt : TypeId} {x y : Operand} {a b v : EV} (hin : dstsIn n ops = true) (hw : wantS ops l g = some true) (hxi : inFrame n x = true) (hx : evalS l x = some a) (hyi : inFrame n y = true) (hy : evalS l y = some b) (hv : binE C op t a b = some v) (hdn : Nat.ble (Nat.succ d) n = true)
    (k : Wk C prim f rid n ops (i + 1) rest ((d, v) :: l) s Q) : Wk C prim f rid n ops i (⟨some d, .binOp op t x y yt, ty, pos, after, g⟩ :: rest) l s Q :=
  .op (s' := s) (v := v) hin hw (fun tm ht call => by
    simp only [opE, binO, evalS_eq ht hxi hx, evalS_eq ht hyi hy, hv, just]) rfl hdn k

theorem Wk.nilCheck {ty : TypeId} {pos : String} {after : Array Edge} {g : Option (Nat × Bool)} {x : Operand} {b q o : Nat} (hin : dstsIn n ops = true) (hw : wantS ops l g = some true) (hxi : inFrame n x = true) (hx : evalS l x = some (.ptr b q o)) (hdn : Nat.ble (Nat.succ d) n = true)
    (k : Wk C prim f rid n ops (i + 1) rest ((d, .ptr b q o) :: l) s Q) : Wk C prim f rid n ops i (⟨some d, .nilCheck x, ty, pos, after, g⟩ :: rest) l s Q :=
  .op (s' := s) (v := .ptr b q o) hin hw (fun tm ht call => by
    simp only [opE, nilCheckO, evalS_eq ht hxi hx]) rfl hdn k

theorem Wk.nilCheckC {ty : TypeId} {pos : String} {after : Array Edge} {g : Option (Nat × Bool)} {x : Operand} {m : Nat} {cs : List EV} (hin : dstsIn n ops = true) (hw : wantS ops l g = some true) (hxi : inFrame n x = true) (hx : evalS l x = some (.cptr m cs)) (hdn : Nat.ble (Nat.succ d) n = true)
    (k : Wk C prim f rid n ops (i + 1) rest ((d, .cptr m cs) :: l) s Q) : Wk C prim f rid n ops i (⟨some d, .nilCheck x, ty, pos, after, g⟩ :: rest) l s Q :=
  .op (s' := s) (v := .cptr m cs) hin hw (fun tm ht call => by
    simp only [opE, nilCheckO, evalS_eq ht hxi hx]) rfl hdn k

theorem Wk.extract {ty : TypeId} {pos : String} {after : Array Edge} {g : Option (Nat × Bool)} {x : Operand} {q : Nat} {vs : List EV} {v : EV} (hin : dstsIn n ops = true) (hw : wantS ops l g = some true) (hxi : inFrame n x = true) (hx : evalS l x = some (.tup vs)) (hv : lget vs q = some v) (hdn : Nat.ble (Nat.succ d) n = true)
    (k : Wk C prim f rid n ops (i + 1) rest ((d, v) :: l) s Q) : Wk C prim f rid n ops i (⟨some d, .extract x q, ty, pos, after, g⟩ :: rest) l s Q :=
  .op (s' := s) (v := v) hin hw (fun tm ht call => by
    simp only [opE, extractO, evalS_eq ht hxi hx, hv, just]) rfl hdn k

theorem Wk.indexAddr {ty : TypeId} {pos : String} {after : Array Edge} {g : Option (Nat × Bool)} {t : TypeId} {x y : Operand} {a b v : EV} (hin : dstsIn n ops = true) (hw : wantS ops l g = some true) (hxi : inFrame n x = true) (hx : evalS l x = some a) (hyi : inFrame n y = true) (hy : evalS l y = some b) (hv : indexAddrE C t a b = some v) (hdn : Nat.ble (Nat.succ d) n = true)
    (k : Wk C prim f rid n ops (i + 1) rest ((d, v) :: l) s Q) : Wk C prim f rid n ops i (⟨some d, .indexAddr t x y, ty, pos, after, g⟩ :: rest) l s Q :=
  .op (s' := s) (v := v) hin hw (fun tm ht call => by
    simp only [opE, indexAddrO, evalS_eq ht hxi hx, evalS_eq ht hyi hy, hv, just]) rfl hdn k

theorem Wk.index {ty : TypeId} {pos : String} {after : Array Edge} {g : Option (Nat × Bool)} {t : TypeId} {x y : Operand} {a b v : EV} (hin : dstsIn n ops = true) (hw : wantS ops l g = some true) (hxi : inFrame n x = true) (hx : evalS l x = some a) (hyi : inFrame n y = true) (hy : evalS l y = some b) (hv : indexE C t a b = some v) (hdn : Nat.ble (Nat.succ d) n = true)
    (k : Wk C prim f rid n ops (i + 1) rest ((d, v) :: l) s Q) : Wk C prim f rid n ops i (⟨some d, .index t x y, ty, pos, after, g⟩ :: rest) l s Q :=
  .op (s' := s) (v := v) hin hw (fun tm ht call => by
    simp only [opE, indexO, evalS_eq ht hxi hx, evalS_eq ht hyi hy, hv, just]) rfl hdn k

theorem Wk.conv {ty : TypeId} {pos : String} {after : Array Edge} {g : Option (Nat × Bool)} {t1 t2 : TypeId} {x : Operand} {a v : EV} {s1 : St} (hin : dstsIn n ops = true) (hw : wantS ops l g = some true) (hxi : inFrame n x = true) (hx : evalS l x = some a) (hv : convE C (C.mutated f rid i) t1 t2 a s = some (v, s1)) (hdn : Nat.ble (Nat.succ d) n = true)
    (k : Wk C prim f rid n ops (i + 1) rest ((d, v) :: l) s1 Q) : Wk C prim f rid n ops i (⟨some d, .convert t1 t2 x, ty, pos, after, g⟩ :: rest) l s Q :=
  .op (s' := s1) (v := v) hin hw (fun tm ht call => by
    simp only [opE, evalS_eq ht hxi hx, Option.bind_some, hv]) rfl hdn k

theorem Wk.store {ty : TypeId} {pos : String} {after : Array Edge} {g : Option (Nat × Bool)} {t : TypeId} {x y : Operand} {a v : EV} {s1 : St} (hin : dstsIn n ops = true) (hw : wantS ops l g = some true) (hxi : inFrame n x = true) (hx : evalS l x = some a) (hyi : inFrame n y = true) (hy : evalS l y = some v)
    (hv : storeE C t a v s = some s1) (k : Wk C prim f rid n ops (i + 1) rest l s1 Q) : Wk C prim f rid n ops i (⟨none, .store t x y, ty, pos, after, g⟩ :: rest) l s Q :=
  .op0 (s' := s1) (v := undefE) hin hw (fun tm ht call => by simp only [opE, storeO, evalS_eq ht hxi hx, evalS_eq ht hyi hy, hv]) rfl k

/-- Operands' values. -/
def evalSL (n : Nat) (l : List (Nat × EV)) : List Operand → Option (List EV)
  | [] => some []
  | x :: xs => if inFrame n x then match evalS l x, evalSL n l xs with
    | some v, some vs => some (v :: vs)
    | _, _ => none
    else none

theorem evalSL_eq (h : TmIs tm n l) : ∀ {xs : List Operand} {vs : List EV}, evalSL n l xs = some vs → evalL C tm xs = some vs
  | [], vs, hv => by simpa [evalSL, evalL] using hv
  | x :: xs, vs, hv => by
    simp only [evalSL] at hv
    split at hv
    · rename_i hi
      split at hv
      · rename_i v vs' h1 h2
        cases hv
        simp only [evalL]
        rw [evalS_eq h hi h1, evalSL_eq h h2]
      · cases hv
    · cases hv

theorem Wk.builtin {ty : TypeId} {pos : String} {after : Array Edge} {g : Option (Nat × Bool)} {b : Builtin} {args : Array Operand} {ts : Array TypeId} {as : List EV} {v : EV} {s1 : St} (hin : dstsIn n ops = true) (hw : wantS ops l g = some true) (ha : evalSL n l args.toList = some as)
    (hv : builtinE C b ts.toList as s = some (v, s1)) (hdn : Nat.ble (Nat.succ d) n = true) (k : Wk C prim f rid n ops (i + 1) rest ((d, v) :: l) s1 Q) : Wk C prim f rid n ops i (⟨some d, .call ⟨.builtin b, args, ts⟩, ty, pos, after, g⟩ :: rest) l s Q :=
  .op (s' := s1) (v := v) hin hw (fun tm ht call => by simp only [opE, callO, evalSL_eq ht ha, hv]) rfl hdn k

theorem Wk.call {ty : TypeId} {pos : String} {after : Array Edge} {g : Option (Nat × Bool)} {x : Operand} {gf : FuncId} {first cap : List EV} {args : Array Operand} {ts : Array TypeId} {as as' : List EV} {v : EV} {s1 s2 : St} (hin : dstsIn n ops = true) (hw : wantS ops l g = some true)
    (hxi : inFrame n x = true) (hx : evalS l x = some (.fn (.func gf) first cap)) (ha : evalSL n l args.toList = some as) (hb : C.byref gf = false) (hf : freezeL s as = some (as', s1)) (he : Ev C prim gf (first ++ as' ++ cap) s1 v s2)
    (hdn : Nat.ble (Nat.succ d) n = true) (k : Wk C prim f rid n ops (i + 1) rest ((d, v) :: l) s2 Q) : Wk C prim f rid n ops i (⟨some d, .call ⟨.value x, args, ts⟩, ty, pos, after, g⟩ :: rest) l s Q :=
  ⟨fun tm ht => .call (wantS_eq (o := ⟨some d, .call ⟨.value x, args, ts⟩, ty, pos, after, g⟩) ht hw fun j _ _ d hd => dstsIn_get hin j d hd) rfl rfl (evalS_eq ht hxi hx) (evalSL_eq ht ha) hb hf he (k.go _ (ht.put hdn))⟩

theorem Wk.done {R : List (Nat × EV) → St → Prop} (h : R l s) : Wk C prim f rid n ops i [] l s (fun tm s => ∃ l, TmIs tm n l ∧ R l s) := .nil fun tm ht => ⟨l, ht, h⟩

/-- Code, over what was put. -/
def Wc (C : Ctx) (prim : CallE → Nat → FuncId → List EV → St → Option (EV × St)) (f n0 n : Nat) (c : Code) (l : List (Nat × EV)) (s : St) (R : Ex → List (Nat × EV) → St → Prop) : Prop :=
  ∀ tm, TmIs tm n l → Wx C prim f n0 c tm s (fun ex tm s => ∃ l, TmIs tm n l ∧ R ex l s)

def thenR (k : List (Nat × EV) → St → Prop) (R : Ex → List (Nat × EV) → St → Prop) : Ex → List (Nat × EV) → St → Prop
  | .normal, l, s => k l s
  | e, l, s => R e l s

def blockR (id : Nat) (R : Ex → List (Nat × EV) → St → Prop) : Ex → List (Nat × EV) → St → Prop
  | .exit id', l, s => if id' = id then R .normal l s else R (.exit id') l s
  | e, l, s => R e l s

variable {R R' : Ex → List (Nat × EV) → St → Prop}

theorem Wc.mono {c : Code} (h : Wc C prim f n0 n c l s R) (hr : ∀ e l s, R e l s → R' e l s) : Wc C prim f n0 n c l s R' :=
  fun tm ht => (h tm ht).mono fun e t s ⟨l, h1, h2⟩ => ⟨l, h1, hr _ _ _ h2⟩

theorem Wc.skip (h : R .normal l s) : Wc C prim f n0 n .skip l s R := fun tm ht => .skip ⟨l, ht, h⟩
theorem Wc.ret (h : R .ret l s) : Wc C prim f n0 n .ret l s R := fun tm ht => .ret ⟨l, ht, h⟩
theorem Wc.exit {id : Nat} (h : R (.exit id) l s) : Wc C prim f n0 n (.exit id) l s R := fun tm ht => .exit ⟨l, ht, h⟩

theorem Wc.seq {a b : Code} (h : Wc C prim f n0 n a l s (thenR (fun l s => Wc C prim f n0 n b l s R) R)) : Wc C prim f n0 n (.seq a b) l s R :=
  fun tm ht => .seq ((h tm ht).mono fun e t s ⟨l, h1, h2⟩ => by
    cases e with
    | normal => exact h2 t h1
    | exit id => exact ⟨l, h1, h2⟩
    | ret => exact ⟨l, h1, h2⟩)

theorem Wc.cond {c : Operand} {a b : Code} {x : Bool} (hi : inFrame n c = true) (hc : evalS l c = some (.bool x)) (ht : x = true → Wc C prim f n0 n a l s R) (hf : x = false → Wc C prim f n0 n b l s R) : Wc C prim f n0 n (.cond c a b) l s R :=
  fun tm h => .cond (evalS_eq h hi hc) (fun hx => ht hx tm h) (fun hx => hf hx tm h)

theorem Wc.condT {c : Operand} {a b : Code} (hi : inFrame n c = true) (hc : evalS l c = some (.bool true)) (h : Wc C prim f n0 n a l s R) : Wc C prim f n0 n (.cond c a b) l s R :=
  .cond hi hc (fun _ => h) (fun h => by cases h)

theorem Wc.condF {c : Operand} {a b : Code} (hi : inFrame n c = true) (hc : evalS l c = some (.bool false)) (h : Wc C prim f n0 n b l s R) : Wc C prim f n0 n (.cond c a b) l s R :=
  .cond hi hc (fun h => by cases h) (fun _ => h)

theorem Wc.block {id : Nat} {b : Code} (h : Wc C prim f n0 n b l s (blockR id R)) : Wc C prim f n0 n (.block id b) l s R :=
  fun tm ht => .block ((h tm ht).mono fun e t s ⟨l, h1, h2⟩ => by
    cases e with
    | normal => exact ⟨l, h1, h2⟩
    | ret => exact ⟨l, h1, h2⟩
    | exit id' =>
      simp only [blockR] at h2
      simp only [blockQ]
      split
      · rename_i he; rw [if_pos he] at h2; exact ⟨l, h1, h2⟩
      · rename_i he; rw [if_neg he] at h2; exact ⟨l, h1, h2⟩)

theorem Wc.region {id : Nat} {ops : Array Oper} (hk : C.kill f id = none) (h : Wk C prim f id n ops.toList 0 ops.toList l s (fun tm s => ∃ l, TmIs tm n l ∧ R .normal l s)) : Wc C prim f n0 n (.region id ops false) l s R :=
  fun tm ht => .region hk (h.go tm ht)

/-- A loop: what holds ahead of each round. -/
theorem Wc.loop {b : Code} (I : Nat → List (Nat × EV) → St → Prop) (m : Nat) (h0 : I m l s) (round : ∀ m l s, I m l s → Wc C prim f n0 n b l s (thenR (fun l s' => ∃ m', m' < m ∧ I m' l s') R)) : Wc C prim f n0 n (.loop b) l s R := by
  intro tm ht
  have key : ∀ m l s tm, I m l s → TmIs tm n l → ∃ N r, (∀ k q, N ≤ k → N ≤ q → loopE (fun tm s => exec C (callE C prim k) k f n0 b tm s) q tm s = some r) ∧ ∃ l, TmIs r.2.1 n l ∧ R r.1 l r.2.2 := by
    intro m
    induction m using Nat.strongRecOn with
    | _ m ih =>
      intro l s tm hI ht
      obtain ⟨N, ⟨e, t, s1⟩, h1, l1, h2, h3⟩ := round m l s hI tm ht
      cases e with
      | normal =>
        obtain ⟨m', hlt, hI'⟩ := h3
        obtain ⟨M, r, h4, h5⟩ := ih m' hlt l1 s1 t hI' h2
        refine ⟨max N (M + 1), r, fun k q hk hq => ?_, h5⟩
        obtain ⟨q, rfl⟩ : ∃ q', q = q' + 1 := ⟨q - 1, by omega⟩
        simp only [loopE]
        rw [h1 k (by omega)]
        exact h4 k q (by omega) (by omega)
      | exit id =>
        refine ⟨N + 1, (.exit id, t, s1), fun k q hk hq => ?_, l1, h2, h3⟩
        obtain ⟨q, rfl⟩ : ∃ q', q = q' + 1 := ⟨q - 1, by omega⟩
        simp only [loopE]
        rw [h1 k (by omega)]
      | ret =>
        refine ⟨N + 1, (.ret, t, s1), fun k q hk hq => ?_, l1, h2, h3⟩
        obtain ⟨q, rfl⟩ : ∃ q', q = q' + 1 := ⟨q - 1, by omega⟩
        simp only [loopE]
        rw [h1 k (by omega)]
  obtain ⟨N, r, h1, h2⟩ := key m l s tm h0 ht
  exact ⟨N, r, fun k hk => by simp only [exec]; exact h1 k k hk hk, h2⟩

/-- A result out of a slot. -/
def resS (C : Ctx) (l : List (Nat × EV)) (s : St) : ResultVar → Option EV
  | .tmp t => some (sget l t)
  | .cell a t => loadE C t (sget l a) s

def resIn (n : Nat) : ResultVar → Bool
  | .tmp t => Nat.ble (Nat.succ t) n
  | .cell a _ => Nat.ble (Nat.succ a) n

def resSL (C : Ctx) (n : Nat) (l : List (Nat × EV)) (s : St) : List ResultVar → Option (List EV)
  | [] => some []
  | r :: rs => if resIn n r then match resS C l s r, resSL C n l s rs with
    | some v, some vs => some (v :: vs)
    | _, _ => none
    else none

theorem resSL_eq (h : TmIs tm n l) : ∀ {rs : List ResultVar} {vs : List EV}, resSL C n l s rs = some vs → resAll C tm s rs = some vs
  | [], vs, hv => by simpa [resSL, resAll] using hv
  | r :: rs, vs, hv => by
    simp only [resSL] at hv
    split at hv
    · rename_i hi
      split at hv
      · rename_i v vs' h1 h2
        cases hv
        simp only [resAll]
        rw [resSL_eq h h2]
        have : resOne C tm s r = some v := by
          cases r with
          | tmp t => simp only [resS] at h1; simp only [resOne]; rw [h.get hi]; exact h1
          | cell a t => simp only [resS] at h1; simp only [resOne]; rw [h.get hi]; exact h1
        rw [this]
      · cases hv
    · cases hv

/-- A function that is handed no references, and answers one value. -/
theorem Ev.pure1 {f : FuncId} {fn : Func} {c : Code} {args : List EV} {s : St} {v : EV} (hp : C.prim f = none) (hf : C.fn f = some fn) (hb : fn.body = some c) (hpu : C.pure f = true) (hrr : C.retref f = false) (h0 : refsL args = 0)
    (h : Wc C prim f 0 (max args.length fn.ntmps) c (enumE 0 args) { h := [], keep := 0 } fun ex l s' => (∀ id, ex ≠ .exit id) ∧ resSL C (max args.length fn.ntmps) l s' fn.results.toList = some [v] ∧ v.plain = true ∧ v.refs = 0) : Ev C prim f args s v s := by
  refine Ev.pure hp hf hb hpu h0 ((h _ (TmIs.new args _)).mono fun ex t s' ⟨l, h1, h2, h3, h4, h5⟩ => ⟨h2, ?_⟩)
  refine ⟨cut 0 v s', ?_, h5⟩
  unfold finish
  rw [resSL_eq h1 h3]
  simp only [hrr, Bool.false_eq_true, if_false, freezeV_plain h4, Option.map_some]
end
end Go.Ev
