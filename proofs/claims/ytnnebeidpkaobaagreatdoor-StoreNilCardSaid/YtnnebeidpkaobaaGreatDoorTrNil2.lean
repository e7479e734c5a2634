/- Nil and zero stores: what the law answers. -/
import Derived.Test.YtnnebeidpkaobaaGreatDoorTrNil1
set_option linter.unusedVariables false
set_option linter.unusedSimpArgs false
set_option linter.unusedSectionVars false
namespace Go.Ev.Two
open Go Go.Proofs
set_option maxRecDepth 100000
set_option linter.unusedSimpArgs false

noncomputable def prim2 (call : CallE) (k : Nat) (f : FuncId) (args : List EV) (s : St) : Option (EV × St) := match k with
  | 10 => if f = 163 then crcE args s else none
  | k => prim1 call k f args s

theorem onceE_le {cb : FuncId → Bool} {a b : CallE} (h : CallLe a b) {args : List EV} {s : St} {r : EV × St} (hr : onceE cb a args s = some r) : onceE cb b args s = some r := by
  unfold onceE at hr ⊢
  split at hr
  · split at hr
    · rename_i hrd
      try rw [hrd]
      try dsimp only
      split at hr
      · rename_i hd
        rw [if_pos hd]
        split at hr
        · rename_i hm
          rw [if_pos hm]
          split at hr
          · rename_i s1 hw
            split at hr
            · rename_i x s2 hc
              rw [h _ _ _ _ hc]
              exact hr
            · cases hr
          · cases hr
        · cases hr
      · rename_i hd; rw [if_neg hd]; exact hr
    · cases hr
  · cases hr

theorem prim1_le : PrimLe prim1 := by
  intro a b h k f args s r hr
  unfold prim1 at hr ⊢
  split at hr
  · split at hr
    · rename_i hf; rw [if_pos hf]; exact onceE_le h hr
    · cases hr
  · exact hr
  · exact hr
  · exact hr
  · cases hr

theorem prim2_le : PrimLe prim2 := by
  intro a b h k f args s r hr
  unfold prim2 at hr ⊢
  split at hr
  · exact hr
  · exact prim1_le a b h _ _ _ _ _ hr

theorem Wk.buildSlice1 {C : Ctx} {prim : CallE → Nat → FuncId → List EV → St → Option (EV × St)} {f rid n i d : Nat} {s s1 : St} {l : List (Nat × EV)} {ops rest : List Oper} {Q : Tm → St → Prop} {ty : TypeId} {pos : String} {after : Array Edge} {g : Option (Nat × Bool)} {t : TypeId} {len : Nat} {x : Operand} {a v : EV} (hin : dstsIn n ops = true) (hw : wantS ops l g = some true) (hxi : inFrame n x = true) (hx : evalS l x = some a)
    (hv : (match freezeP s [(0, a)] with | some (ps, s) => buildSliceE C (C.mutated f rid i) t len ps s | none => none) = some (v, s1)) (hdn : Nat.ble (Nat.succ d) n = true)
    (k : Wk C prim f rid n ops (i + 1) rest ((d, v) :: l) s1 Q) : Wk C prim f rid n ops i (⟨some d, .buildSlice t len #[(0, x)], ty, pos, after, g⟩ :: rest) l s Q :=
  .op (s' := s1) (v := v) hin hw (fun tm ht call => by
    simp only [opE, buildSliceO, partsE, evalS_eq ht hxi hx, Option.bind_some]
    exact hv) rfl hdn k

def isTrue : Option (EV × St) → Bool
  | some (.bool true, _) => true
  | _ => false

theorem awakeT : isTrue (callE C prim2 3000 7 [] ⟨[], 0⟩) = true := by kernel_rfl

theorem Ev.anyState {C : Ctx} {prim : CallE → Nat → FuncId → List EV → St → Option (EV × St)} (hle : PrimLe prim) {n : Nat} {f : FuncId} {args : List EV} {s : St} (hp : C.prim f = none) (hpu : C.pure f = true) (h0 : refsL args = 0) (h : isTrue (callE C prim (n + 1) f args s) = true) (s' : St) : Ev C prim f args s' (.bool true) s' := by
  refine Ev.of hle (n := n + 1) ?_
  simp only [callE, hp, hpu, h0] at h ⊢
  cases hfn : C.fn f with
  | none => simp [hfn, isTrue] at h
  | some fn =>
    simp only [hfn] at h ⊢
    cases hb : fn.body with
    | none => simp [hb, isTrue] at h
    | some c =>
      simp only [hb, show (true && Nat.beq 0 0) = true from rfl, if_true] at h ⊢
      cases hv : callPure C (callE C prim n) n f fn c args with
      | none => simp [hv, isTrue] at h
      | some v =>
        simp only [hv] at h ⊢
        cases v <;> simp [isTrue] at h
        rename_i b
        cases b
        · simp at h
        · rfl

theorem awake_ev (s : St) : Ev C prim2 7 [] s (.bool true) s := Ev.anyState prim2_le (n := 2999) (by kernel_rfl) (by kernel_rfl) rfl awakeT s

set_option maxHeartbeats 8000000 in
theorem law_ev (c0 f0 f3 f4 c1 c2 i0 i1 i5 i6 i7 i8 i10 i11 i12 i14 i15 i17 i18 : Int) (b9 : Bool) (f1 f2 s2 s3 s4 s13 s16 s19 : ByteArray) (s : St) :
    Ev C prim2 4 [.agg [.int .i64 c0, .int .i64 f0, .str f1, .str f2, .int .i64 f3, .int .i64 f4, .int .i64 i0, .int .i64 i1, .str s2, .str s3, .str s4, .int .i64 i5, .int .i64 i6, .int .i64 i7, .int .i64 i8, .bool b9, .int .i64 i10, .int .i64 i11, .int .i64 i12, .str s13, .int .i64 i14, .int .i64 i15, .str s16, .int .i64 i17, .int .i64 i18, .str s19, .int .i64 c1, .int .i64 c2]] s (.bool true) s := by
  obtain ⟨bf, few⟩ := ev_few (prim := prim2) c0 f0 f3 f4 c1 c2 i0 i1 i5 i6 i7 i8 i10 i11 i12 i14 i15 i17 i18 b9 f1 f2 s2 s3 s4 s13 s16 s19
  have ca12 : Ev C prim2 12 [.nilptr, .sl 0 true 28 [[.int .i64 c0, .int .i64 f0, .str f1, .str f2, .int .i64 f3, .int .i64 f4, .int .i64 i0, .int .i64 i1, .str s2, .str s3, .str s4, .int .i64 i5, .int .i64 i6, .int .i64 i7, .int .i64 i8, .bool b9, .int .i64 i10, .int .i64 i11, .int .i64 i12, .str s13, .int .i64 i14, .int .i64 i15, .str s16, .int .i64 i17, .int .i64 i18, .str s19, .int .i64 c1, .int .i64 c2]]] (⟨[⟨0, false, false, [.int .i64 c0, .int .i64 f0, .str f1, .str f2, .int .i64 f3, .int .i64 f4, .int .i64 i0, .int .i64 i1, .str s2, .str s3, .str s4, .int .i64 i5, .int .i64 i6, .int .i64 i7, .int .i64 i8, .bool b9, .int .i64 i10, .int .i64 i11, .int .i64 i12, .str s13, .int .i64 i14, .int .i64 i15, .str s16, .int .i64 i17, .int .i64 i18, .str s19, .int .i64 c1, .int .i64 c2]⟩], 0⟩ : St) (.int .i64 10) (⟨[⟨0, false, false, [.int .i64 c0, .int .i64 f0, .str f1, .str f2, .int .i64 f3, .int .i64 f4, .int .i64 i0, .int .i64 i1, .str s2, .str s3, .str s4, .int .i64 i5, .int .i64 i6, .int .i64 i7, .int .i64 i8, .bool b9, .int .i64 i10, .int .i64 i11, .int .i64 i12, .str s13, .int .i64 i14, .int .i64 i15, .str s16, .int .i64 i17, .int .i64 i18, .str s19, .int .i64 c1, .int .i64 c2]⟩], 0⟩ : St) := Ev.of prim2_le (n := 60) (by kernel_rfl)
  have ca15 : Ev C prim2 15 [.nilptr] (⟨[⟨0, false, false, [.int .i64 c0, .int .i64 f0, .str f1, .str f2, .int .i64 f3, .int .i64 f4, .int .i64 i0, .int .i64 i1, .str s2, .str s3, .str s4, .int .i64 i5, .int .i64 i6, .int .i64 i7, .int .i64 i8, .bool b9, .int .i64 i10, .int .i64 i11, .int .i64 i12, .str s13, .int .i64 i14, .int .i64 i15, .str s16, .int .i64 i17, .int .i64 i18, .str s19, .int .i64 c1, .int .i64 c2]⟩], 0⟩ : St) (.bool true) (⟨[⟨0, false, false, [.int .i64 c0, .int .i64 f0, .str f1, .str f2, .int .i64 f3, .int .i64 f4, .int .i64 i0, .int .i64 i1, .str s2, .str s3, .str s4, .int .i64 i5, .int .i64 i6, .int .i64 i7, .int .i64 i8, .bool b9, .int .i64 i10, .int .i64 i11, .int .i64 i12, .str s13, .int .i64 i14, .int .i64 i15, .str s16, .int .i64 i17, .int .i64 i18, .str s19, .int .i64 c1, .int .i64 c2]⟩], 0⟩ : St) := Ev.of prim2_le (n := 60) (by kernel_rfl)
  have ca14 : Ev C prim2 14 [.nilptr] (⟨[⟨0, false, false, [.int .i64 c0, .int .i64 f0, .str f1, .str f2, .int .i64 f3, .int .i64 f4, .int .i64 i0, .int .i64 i1, .str s2, .str s3, .str s4, .int .i64 i5, .int .i64 i6, .int .i64 i7, .int .i64 i8, .bool b9, .int .i64 i10, .int .i64 i11, .int .i64 i12, .str s13, .int .i64 i14, .int .i64 i15, .str s16, .int .i64 i17, .int .i64 i18, .str s19, .int .i64 c1, .int .i64 c2]⟩], 0⟩ : St) (.agg [.int .i64 0, .int .i64 0, .int .i64 0, .int .i64 0, .nilsl, .nilsl]) (⟨[⟨0, false, false, [.int .i64 c0, .int .i64 f0, .str f1, .str f2, .int .i64 f3, .int .i64 f4, .int .i64 i0, .int .i64 i1, .str s2, .str s3, .str s4, .int .i64 i5, .int .i64 i6, .int .i64 i7, .int .i64 i8, .bool b9, .int .i64 i10, .int .i64 i11, .int .i64 i12, .str s13, .int .i64 i14, .int .i64 i15, .str s16, .int .i64 i17, .int .i64 i18, .str s19, .int .i64 c1, .int .i64 c2]⟩], 0⟩ : St) := Ev.of prim2_le (n := 60) (by kernel_rfl)
  have ca13 : Ev C prim2 13 [.agg [.int .i64 0, .int .i64 0, .int .i64 0, .int .i64 0, .nilsl, .nilsl], .agg [.int .i64 0, .int .i64 0, .int .i64 0, .int .i64 0, .nilsl, .nilsl]] (⟨[⟨0, false, false, [.int .i64 c0, .int .i64 f0, .str f1, .str f2, .int .i64 f3, .int .i64 f4, .int .i64 i0, .int .i64 i1, .str s2, .str s3, .str s4, .int .i64 i5, .int .i64 i6, .int .i64 i7, .int .i64 i8, .bool b9, .int .i64 i10, .int .i64 i11, .int .i64 i12, .str s13, .int .i64 i14, .int .i64 i15, .str s16, .int .i64 i17, .int .i64 i18, .str s19, .int .i64 c1, .int .i64 c2]⟩], 0⟩ : St) (.bool true) (⟨[⟨0, false, false, [.int .i64 c0, .int .i64 f0, .str f1, .str f2, .int .i64 f3, .int .i64 f4, .int .i64 i0, .int .i64 i1, .str s2, .str s3, .str s4, .int .i64 i5, .int .i64 i6, .int .i64 i7, .int .i64 i8, .bool b9, .int .i64 i10, .int .i64 i11, .int .i64 i12, .str s13, .int .i64 i14, .int .i64 i15, .str s16, .int .i64 i17, .int .i64 i18, .str s19, .int .i64 c1, .int .i64 c2]⟩], 0⟩ : St) := Ev.of prim2_le (n := 60) (by kernel_rfl)
  have cb12 : Ev C prim2 12 [.ptr 1 0 0, .sl 0 true 28 [[.int .i64 c0, .int .i64 f0, .str f1, .str f2, .int .i64 f3, .int .i64 f4, .int .i64 i0, .int .i64 i1, .str s2, .str s3, .str s4, .int .i64 i5, .int .i64 i6, .int .i64 i7, .int .i64 i8, .bool b9, .int .i64 i10, .int .i64 i11, .int .i64 i12, .str s13, .int .i64 i14, .int .i64 i15, .str s16, .int .i64 i17, .int .i64 i18, .str s19, .int .i64 c1, .int .i64 c2]]] (⟨[⟨0, false, false, [.int .i64 c0, .int .i64 f0, .str f1, .str f2, .int .i64 f3, .int .i64 f4, .int .i64 i0, .int .i64 i1, .str s2, .str s3, .str s4, .int .i64 i5, .int .i64 i6, .int .i64 i7, .int .i64 i8, .bool b9, .int .i64 i10, .int .i64 i11, .int .i64 i12, .str s13, .int .i64 i14, .int .i64 i15, .str s16, .int .i64 i17, .int .i64 i18, .str s19, .int .i64 c1, .int .i64 c2]⟩, ⟨0, false, false, [.bool false, .nilptr, .int .i64 0, .int .i64 0, .int .i64 0, .int .i64 0, .nilsl, .nilsl, .int .i64 0]⟩], 0⟩ : St) (.int .i64 10) (⟨[⟨0, false, false, [.int .i64 c0, .int .i64 f0, .str f1, .str f2, .int .i64 f3, .int .i64 f4, .int .i64 i0, .int .i64 i1, .str s2, .str s3, .str s4, .int .i64 i5, .int .i64 i6, .int .i64 i7, .int .i64 i8, .bool b9, .int .i64 i10, .int .i64 i11, .int .i64 i12, .str s13, .int .i64 i14, .int .i64 i15, .str s16, .int .i64 i17, .int .i64 i18, .str s19, .int .i64 c1, .int .i64 c2]⟩, ⟨0, false, false, [.bool false, .nilptr, .int .i64 0, .int .i64 0, .int .i64 0, .int .i64 0, .nilsl, .nilsl, .int .i64 0]⟩], 0⟩ : St) := Ev.of prim2_le (n := 60) (by kernel_rfl)
  have cb15 : Ev C prim2 15 [.ptr 1 0 0] (⟨[⟨0, false, false, [.int .i64 c0, .int .i64 f0, .str f1, .str f2, .int .i64 f3, .int .i64 f4, .int .i64 i0, .int .i64 i1, .str s2, .str s3, .str s4, .int .i64 i5, .int .i64 i6, .int .i64 i7, .int .i64 i8, .bool b9, .int .i64 i10, .int .i64 i11, .int .i64 i12, .str s13, .int .i64 i14, .int .i64 i15, .str s16, .int .i64 i17, .int .i64 i18, .str s19, .int .i64 c1, .int .i64 c2]⟩, ⟨0, false, false, [.bool false, .nilptr, .int .i64 0, .int .i64 0, .int .i64 0, .int .i64 0, .nilsl, .nilsl, .int .i64 0]⟩], 0⟩ : St) (.bool true) (⟨[⟨0, false, false, [.int .i64 c0, .int .i64 f0, .str f1, .str f2, .int .i64 f3, .int .i64 f4, .int .i64 i0, .int .i64 i1, .str s2, .str s3, .str s4, .int .i64 i5, .int .i64 i6, .int .i64 i7, .int .i64 i8, .bool b9, .int .i64 i10, .int .i64 i11, .int .i64 i12, .str s13, .int .i64 i14, .int .i64 i15, .str s16, .int .i64 i17, .int .i64 i18, .str s19, .int .i64 c1, .int .i64 c2]⟩, ⟨0, false, false, [.bool false, .nilptr, .int .i64 0, .int .i64 0, .int .i64 0, .int .i64 0, .nilsl, .nilsl, .int .i64 0]⟩], 0⟩ : St) := Ev.of prim2_le (n := 60) (by kernel_rfl)
  have cb14 : Ev C prim2 14 [.ptr 1 0 0] (⟨[⟨0, false, false, [.int .i64 c0, .int .i64 f0, .str f1, .str f2, .int .i64 f3, .int .i64 f4, .int .i64 i0, .int .i64 i1, .str s2, .str s3, .str s4, .int .i64 i5, .int .i64 i6, .int .i64 i7, .int .i64 i8, .bool b9, .int .i64 i10, .int .i64 i11, .int .i64 i12, .str s13, .int .i64 i14, .int .i64 i15, .str s16, .int .i64 i17, .int .i64 i18, .str s19, .int .i64 c1, .int .i64 c2]⟩, ⟨0, false, false, [.bool false, .nilptr, .int .i64 0, .int .i64 0, .int .i64 0, .int .i64 0, .nilsl, .nilsl, .int .i64 0]⟩], 0⟩ : St) (.agg [.int .i64 0, .int .i64 0, .int .i64 0, .int .i64 0, .nilsl, .nilsl]) (⟨[⟨0, false, false, [.int .i64 c0, .int .i64 f0, .str f1, .str f2, .int .i64 f3, .int .i64 f4, .int .i64 i0, .int .i64 i1, .str s2, .str s3, .str s4, .int .i64 i5, .int .i64 i6, .int .i64 i7, .int .i64 i8, .bool b9, .int .i64 i10, .int .i64 i11, .int .i64 i12, .str s13, .int .i64 i14, .int .i64 i15, .str s16, .int .i64 i17, .int .i64 i18, .str s19, .int .i64 c1, .int .i64 c2]⟩, ⟨0, false, false, [.bool false, .nilptr, .int .i64 0, .int .i64 0, .int .i64 0, .int .i64 0, .nilsl, .nilsl, .int .i64 0]⟩], 0⟩ : St) := Ev.of prim2_le (n := 60) (by kernel_rfl)
  have cb13 : Ev C prim2 13 [.agg [.int .i64 0, .int .i64 0, .int .i64 0, .int .i64 0, .nilsl, .nilsl], .agg [.int .i64 0, .int .i64 0, .int .i64 0, .int .i64 0, .nilsl, .nilsl]] (⟨[⟨0, false, false, [.int .i64 c0, .int .i64 f0, .str f1, .str f2, .int .i64 f3, .int .i64 f4, .int .i64 i0, .int .i64 i1, .str s2, .str s3, .str s4, .int .i64 i5, .int .i64 i6, .int .i64 i7, .int .i64 i8, .bool b9, .int .i64 i10, .int .i64 i11, .int .i64 i12, .str s13, .int .i64 i14, .int .i64 i15, .str s16, .int .i64 i17, .int .i64 i18, .str s19, .int .i64 c1, .int .i64 c2]⟩, ⟨0, false, false, [.bool false, .nilptr, .int .i64 0, .int .i64 0, .int .i64 0, .int .i64 0, .nilsl, .nilsl, .int .i64 0]⟩], 0⟩ : St) (.bool true) (⟨[⟨0, false, false, [.int .i64 c0, .int .i64 f0, .str f1, .str f2, .int .i64 f3, .int .i64 f4, .int .i64 i0, .int .i64 i1, .str s2, .str s3, .str s4, .int .i64 i5, .int .i64 i6, .int .i64 i7, .int .i64 i8, .bool b9, .int .i64 i10, .int .i64 i11, .int .i64 i12, .str s13, .int .i64 i14, .int .i64 i15, .str s16, .int .i64 i17, .int .i64 i18, .str s19, .int .i64 c1, .int .i64 c2]⟩, ⟨0, false, false, [.bool false, .nilptr, .int .i64 0, .int .i64 0, .int .i64 0, .int .i64 0, .nilsl, .nilsl, .int .i64 0]⟩], 0⟩ : St) := Ev.of prim2_le (n := 60) (by kernel_rfl)
  have cc9 : Ev C prim2 9 [.nilptr] (⟨[⟨0, false, false, [.int .i64 c0, .int .i64 f0, .str f1, .str f2, .int .i64 f3, .int .i64 f4, .int .i64 i0, .int .i64 i1, .str s2, .str s3, .str s4, .int .i64 i5, .int .i64 i6, .int .i64 i7, .int .i64 i8, .bool b9, .int .i64 i10, .int .i64 i11, .int .i64 i12, .str s13, .int .i64 i14, .int .i64 i15, .str s16, .int .i64 i17, .int .i64 i18, .str s19, .int .i64 c1, .int .i64 c2]⟩, ⟨0, false, false, [.bool false, .nilptr, .int .i64 0, .int .i64 0, .int .i64 0, .int .i64 0, .nilsl, .nilsl, .int .i64 0]⟩, ⟨0, false, false, [.bool false, .nilptr, .int .i64 0, .int .i64 0, .int .i64 0, .int .i64 0, .nilsl, .nilsl, .int .i64 0]⟩], 0⟩ : St) (.tup [.nilptr, .int .i64 10]) (⟨[⟨0, false, false, [.int .i64 c0, .int .i64 f0, .str f1, .str f2, .int .i64 f3, .int .i64 f4, .int .i64 i0, .int .i64 i1, .str s2, .str s3, .str s4, .int .i64 i5, .int .i64 i6, .int .i64 i7, .int .i64 i8, .bool b9, .int .i64 i10, .int .i64 i11, .int .i64 i12, .str s13, .int .i64 i14, .int .i64 i15, .str s16, .int .i64 i17, .int .i64 i18, .str s19, .int .i64 c1, .int .i64 c2]⟩, ⟨0, false, false, [.bool false, .nilptr, .int .i64 0, .int .i64 0, .int .i64 0, .int .i64 0, .nilsl, .nilsl, .int .i64 0]⟩, ⟨0, false, false, [.bool false, .nilptr, .int .i64 0, .int .i64 0, .int .i64 0, .int .i64 0, .nilsl, .nilsl, .int .i64 0]⟩], 0⟩ : St) := Ev.of prim2_le (n := 60) (by kernel_rfl)
  have aw := awake_ev
  have hbs1 : ∀ s, (match freezeP s [(0, .agg [.int .i64 c0, .int .i64 f0, .str f1, .str f2, .int .i64 f3, .int .i64 f4, .int .i64 i0, .int .i64 i1, .str s2, .str s3, .str s4, .int .i64 i5, .int .i64 i6, .int .i64 i7, .int .i64 i8, .bool b9, .int .i64 i10, .int .i64 i11, .int .i64 i12, .str s13, .int .i64 i14, .int .i64 i15, .str s16, .int .i64 i17, .int .i64 i18, .str s19, .int .i64 c1, .int .i64 c2])] with | some (ps, s) => buildSliceE C (C.mutated 4 1 (0 + 1)) 38 1 ps s | none => none) = some (.sl 0 true 28 [[.int .i64 c0, .int .i64 f0, .str f1, .str f2, .int .i64 f3, .int .i64 f4, .int .i64 i0, .int .i64 i1, .str s2, .str s3, .str s4, .int .i64 i5, .int .i64 i6, .int .i64 i7, .int .i64 i8, .bool b9, .int .i64 i10, .int .i64 i11, .int .i64 i12, .str s13, .int .i64 i14, .int .i64 i15, .str s16, .int .i64 i17, .int .i64 i18, .str s19, .int .i64 c1, .int .i64 c2]], s) := fun s => by kernel_rfl
  have hbs2 : ∀ s, (match freezeP s [(0, .agg [.int .i64 c0, .int .i64 f0, .str f1, .str f2, .int .i64 f3, .int .i64 f4, .int .i64 i0, .int .i64 i1, .str s2, .str s3, .str s4, .int .i64 i5, .int .i64 i6, .int .i64 i7, .int .i64 i8, .bool b9, .int .i64 i10, .int .i64 i11, .int .i64 i12, .str s13, .int .i64 i14, .int .i64 i15, .str s16, .int .i64 i17, .int .i64 i18, .str s19, .int .i64 c1, .int .i64 c2])] with | some (ps, s) => buildSliceE C (C.mutated 4 7 (0 + 1 + 1)) 38 1 ps s | none => none) = some (.sl 0 true 28 [[.int .i64 c0, .int .i64 f0, .str f1, .str f2, .int .i64 f3, .int .i64 f4, .int .i64 i0, .int .i64 i1, .str s2, .str s3, .str s4, .int .i64 i5, .int .i64 i6, .int .i64 i7, .int .i64 i8, .bool b9, .int .i64 i10, .int .i64 i11, .int .i64 i12, .str s13, .int .i64 i14, .int .i64 i15, .str s16, .int .i64 i17, .int .i64 i18, .str s19, .int .i64 c1, .int .i64 c2]], s) := fun s => by kernel_rfl
  have hb34 : buildE C 34 [] = some (.agg [.int .i64 0, .int .i64 0, .int .i64 0, .int .i64 0, .nilsl, .nilsl]) := by kernel_rfl
  have hb55 : buildE C 55 [] = some (.agg [.bool false, .nilptr, .int .i64 0, .int .i64 0, .int .i64 0, .int .i64 0, .nilsl, .nilsl, .int .i64 0]) := by kernel_rfl
  refine Ev.pure1 (by kernel_rfl) fn4 rfl (by kernel_rfl) (by kernel_rfl) (by kernel_rfl) ?_
  change Wc _ _ _ _ 48 _ _ _ _
  cases bf with
  | false =>
    repeat (first
        | refine Wc.seq ?_
        | refine Wc.region (by kernel_rfl) ?_
        | refine Wc.condT rfl rfl ?_
        | refine Wc.condF rfl rfl ?_
        | refine Wc.skip ?_
        | refine Wc.block ?_
        | refine Wc.exit ?_
        | refine Wk.move rfl rfl rfl rfl rfl ?_
        | refine Wk.assign rfl rfl rfl rfl rfl ?_
        | refine Wk.fieldAddr rfl rfl rfl rfl (by simp only [fieldAddrE, fieldOf, ti51, ti9, ti38, ti34, ti55, ti27, ti28]; rfl) rfl ?_
        | refine Wk.load rfl rfl rfl rfl (by simp only [loadE, ti51, ti9, ti38, ti34, ti55, ti27, ti28]; rfl) rfl ?_
        | refine Wk.builtin rfl rfl rfl (by simp only [builtinE, ti51, ti9, ti38, ti34, ti55, ti27, ti28]; rfl) rfl ?_
        | refine Wk.bin rfl rfl rfl rfl rfl rfl rfl rfl ?_
        | refine Wk.un rfl rfl rfl rfl rfl rfl ?_
        | refine Wk.pickT rfl rfl rfl rfl rfl rfl rfl ?_
        | refine Wk.pickF rfl rfl rfl rfl rfl rfl rfl ?_
        | refine Wk.skip rfl rfl rfl rfl ?_
        | refine Wk.box rfl rfl ti51 rfl rfl rfl rfl rfl ?_
        | refine Wk.box rfl rfl ti55 rfl rfl rfl rfl rfl ?_
        | refine Wk.buildSlice1 rfl rfl rfl rfl (hbs1 _) rfl ?_
        | refine Wk.buildSlice1 rfl rfl rfl rfl (hbs2 _) rfl ?_
        | refine Wk.build rfl rfl hb34 rfl ?_
        | refine Wk.build rfl rfl hb55 rfl ?_
        | refine Wk.extract rfl rfl rfl rfl rfl rfl ?_
        | refine Wk.call rfl rfl rfl rfl rfl (by kernel_rfl) rfl (few _) rfl ?_
        | refine Wk.call rfl rfl rfl rfl rfl (by kernel_rfl) rfl (ca12) rfl ?_
        | refine Wk.call rfl rfl rfl rfl rfl (by kernel_rfl) rfl (ca15) rfl ?_
        | refine Wk.call rfl rfl rfl rfl rfl (by kernel_rfl) rfl (ca14) rfl ?_
        | refine Wk.call rfl rfl rfl rfl rfl (by kernel_rfl) rfl (ca13) rfl ?_
        | refine Wk.call rfl rfl rfl rfl rfl (by kernel_rfl) rfl (cb12) rfl ?_
        | refine Wk.call rfl rfl rfl rfl rfl (by kernel_rfl) rfl (cb15) rfl ?_
        | refine Wk.call rfl rfl rfl rfl rfl (by kernel_rfl) rfl (cb14) rfl ?_
        | refine Wk.call rfl rfl rfl rfl rfl (by kernel_rfl) rfl (cb13) rfl ?_
        | refine Wk.call rfl rfl rfl rfl rfl (by kernel_rfl) rfl (cc9) rfl ?_
        | refine Wk.call rfl rfl rfl rfl rfl (by kernel_rfl) rfl (aw _) rfl ?_
        | (refine Wk.done ?_; try dsimp only [sget])
        | refine Wc.ret ?_)
    exact ⟨(fun _ h => by cases h), rfl, rfl, rfl⟩
  | true =>
    repeat (first
        | refine Wc.seq ?_
        | refine Wc.region (by kernel_rfl) ?_
        | refine Wc.condT rfl rfl ?_
        | refine Wc.condF rfl rfl ?_
        | refine Wc.skip ?_
        | refine Wc.block ?_
        | refine Wc.exit ?_
        | refine Wk.move rfl rfl rfl rfl rfl ?_
        | refine Wk.assign rfl rfl rfl rfl rfl ?_
        | refine Wk.fieldAddr rfl rfl rfl rfl (by simp only [fieldAddrE, fieldOf, ti51, ti9, ti38, ti34, ti55, ti27, ti28]; rfl) rfl ?_
        | refine Wk.load rfl rfl rfl rfl (by simp only [loadE, ti51, ti9, ti38, ti34, ti55, ti27, ti28]; rfl) rfl ?_
        | refine Wk.builtin rfl rfl rfl (by simp only [builtinE, ti51, ti9, ti38, ti34, ti55, ti27, ti28]; rfl) rfl ?_
        | refine Wk.bin rfl rfl rfl rfl rfl rfl rfl rfl ?_
        | refine Wk.un rfl rfl rfl rfl rfl rfl ?_
        | refine Wk.pickT rfl rfl rfl rfl rfl rfl rfl ?_
        | refine Wk.pickF rfl rfl rfl rfl rfl rfl rfl ?_
        | refine Wk.skip rfl rfl rfl rfl ?_
        | refine Wk.box rfl rfl ti51 rfl rfl rfl rfl rfl ?_
        | refine Wk.box rfl rfl ti55 rfl rfl rfl rfl rfl ?_
        | refine Wk.buildSlice1 rfl rfl rfl rfl (hbs1 _) rfl ?_
        | refine Wk.buildSlice1 rfl rfl rfl rfl (hbs2 _) rfl ?_
        | refine Wk.build rfl rfl hb34 rfl ?_
        | refine Wk.build rfl rfl hb55 rfl ?_
        | refine Wk.extract rfl rfl rfl rfl rfl rfl ?_
        | refine Wk.call rfl rfl rfl rfl rfl (by kernel_rfl) rfl (few _) rfl ?_
        | refine Wk.call rfl rfl rfl rfl rfl (by kernel_rfl) rfl (ca12) rfl ?_
        | refine Wk.call rfl rfl rfl rfl rfl (by kernel_rfl) rfl (ca15) rfl ?_
        | refine Wk.call rfl rfl rfl rfl rfl (by kernel_rfl) rfl (ca14) rfl ?_
        | refine Wk.call rfl rfl rfl rfl rfl (by kernel_rfl) rfl (ca13) rfl ?_
        | refine Wk.call rfl rfl rfl rfl rfl (by kernel_rfl) rfl (cb12) rfl ?_
        | refine Wk.call rfl rfl rfl rfl rfl (by kernel_rfl) rfl (cb15) rfl ?_
        | refine Wk.call rfl rfl rfl rfl rfl (by kernel_rfl) rfl (cb14) rfl ?_
        | refine Wk.call rfl rfl rfl rfl rfl (by kernel_rfl) rfl (cb13) rfl ?_
        | refine Wk.call rfl rfl rfl rfl rfl (by kernel_rfl) rfl (cc9) rfl ?_
        | refine Wk.call rfl rfl rfl rfl rfl (by kernel_rfl) rfl (aw _) rfl ?_
        | (refine Wk.done ?_; try dsimp only [sget])
        | refine Wc.ret ?_)
    refine Wc.loopC (fun m g st => g 1 = .ptr 0 0 0 ∧ ((m = 2 ∧ g 4 = .int .i64 0 ∧ g 3 = .nilptr ∧ st = (⟨[⟨0, false, false, [.int .i64 c0, .int .i64 f0, .str f1, .str f2, .int .i64 f3, .int .i64 f4, .int .i64 i0, .int .i64 i1, .str s2, .str s3, .str s4, .int .i64 i5, .int .i64 i6, .int .i64 i7, .int .i64 i8, .bool b9, .int .i64 i10, .int .i64 i11, .int .i64 i12, .str s13, .int .i64 i14, .int .i64 i15, .str s16, .int .i64 i17, .int .i64 i18, .str s19, .int .i64 c1, .int .i64 c2]⟩], 0⟩ : St)) ∨ (m = 1 ∧ g 4 = .int .i64 1 ∧ g 3 = .ptr 1 0 0 ∧ st = (⟨[⟨0, false, false, [.int .i64 c0, .int .i64 f0, .str f1, .str f2, .int .i64 f3, .int .i64 f4, .int .i64 i0, .int .i64 i1, .str s2, .str s3, .str s4, .int .i64 i5, .int .i64 i6, .int .i64 i7, .int .i64 i8, .bool b9, .int .i64 i10, .int .i64 i11, .int .i64 i12, .str s13, .int .i64 i14, .int .i64 i15, .str s16, .int .i64 i17, .int .i64 i18, .str s19, .int .i64 c1, .int .i64 c2]⟩, ⟨0, false, false, [.bool false, .nilptr, .int .i64 0, .int .i64 0, .int .i64 0, .int .i64 0, .nilsl, .nilsl, .int .i64 0]⟩], 0⟩ : St)) ∨ (m = 0 ∧ g 4 = .int .i64 2 ∧ st = (⟨[⟨0, false, false, [.int .i64 c0, .int .i64 f0, .str f1, .str f2, .int .i64 f3, .int .i64 f4, .int .i64 i0, .int .i64 i1, .str s2, .str s3, .str s4, .int .i64 i5, .int .i64 i6, .int .i64 i7, .int .i64 i8, .bool b9, .int .i64 i10, .int .i64 i11, .int .i64 i12, .str s13, .int .i64 i14, .int .i64 i15, .str s16, .int .i64 i17, .int .i64 i18, .str s19, .int .i64 c1, .int .i64 c2]⟩, ⟨0, false, false, [.bool false, .nilptr, .int .i64 0, .int .i64 0, .int .i64 0, .int .i64 0, .nilsl, .nilsl, .int .i64 0]⟩, ⟨0, false, false, [.bool false, .nilptr, .int .i64 0, .int .i64 0, .int .i64 0, .int .i64 0, .nilsl, .nilsl, .int .i64 0]⟩], 0⟩ : St)))) 2 ⟨rfl, .inl ⟨rfl, rfl, rfl, rfl⟩⟩ ?_
    rintro m g st ⟨e1, ⟨rfl, e4, e3, rfl⟩ | ⟨rfl, e4, e3, rfl⟩ | ⟨rfl, e4, rfl⟩⟩
    · simp only [canonL, e1, e4, e3, Nat.reduceAdd]
      repeat (first
          | refine Wc.seq ?_
          | refine Wc.region (by kernel_rfl) ?_
          | refine Wc.condT rfl rfl ?_
          | refine Wc.condF rfl rfl ?_
          | refine Wc.skip ?_
          | refine Wc.block ?_
          | refine Wc.exit ?_
          | refine Wk.move rfl rfl rfl rfl rfl ?_
          | refine Wk.assign rfl rfl rfl rfl rfl ?_
          | refine Wk.fieldAddr rfl rfl rfl rfl (by simp only [fieldAddrE, fieldOf, ti51, ti9, ti38, ti34, ti55, ti27, ti28]; rfl) rfl ?_
          | refine Wk.load rfl rfl rfl rfl (by simp only [loadE, ti51, ti9, ti38, ti34, ti55, ti27, ti28]; rfl) rfl ?_
          | refine Wk.builtin rfl rfl rfl (by simp only [builtinE, ti51, ti9, ti38, ti34, ti55, ti27, ti28]; rfl) rfl ?_
          | refine Wk.bin rfl rfl rfl rfl rfl rfl rfl rfl ?_
          | refine Wk.un rfl rfl rfl rfl rfl rfl ?_
          | refine Wk.pickT rfl rfl rfl rfl rfl rfl rfl ?_
          | refine Wk.pickF rfl rfl rfl rfl rfl rfl rfl ?_
          | refine Wk.skip rfl rfl rfl rfl ?_
          | refine Wk.box rfl rfl ti51 rfl rfl rfl rfl rfl ?_
          | refine Wk.box rfl rfl ti55 rfl rfl rfl rfl rfl ?_
          | refine Wk.buildSlice1 rfl rfl rfl rfl (hbs1 _) rfl ?_
          | refine Wk.buildSlice1 rfl rfl rfl rfl (hbs2 _) rfl ?_
          | refine Wk.build rfl rfl hb34 rfl ?_
          | refine Wk.build rfl rfl hb55 rfl ?_
          | refine Wk.extract rfl rfl rfl rfl rfl rfl ?_
          | refine Wk.call rfl rfl rfl rfl rfl (by kernel_rfl) rfl (few _) rfl ?_
          | refine Wk.call rfl rfl rfl rfl rfl (by kernel_rfl) rfl (ca12) rfl ?_
          | refine Wk.call rfl rfl rfl rfl rfl (by kernel_rfl) rfl (ca15) rfl ?_
          | refine Wk.call rfl rfl rfl rfl rfl (by kernel_rfl) rfl (ca14) rfl ?_
          | refine Wk.call rfl rfl rfl rfl rfl (by kernel_rfl) rfl (ca13) rfl ?_
          | refine Wk.call rfl rfl rfl rfl rfl (by kernel_rfl) rfl (cb12) rfl ?_
          | refine Wk.call rfl rfl rfl rfl rfl (by kernel_rfl) rfl (cb15) rfl ?_
          | refine Wk.call rfl rfl rfl rfl rfl (by kernel_rfl) rfl (cb14) rfl ?_
          | refine Wk.call rfl rfl rfl rfl rfl (by kernel_rfl) rfl (cb13) rfl ?_
          | refine Wk.call rfl rfl rfl rfl rfl (by kernel_rfl) rfl (cc9) rfl ?_
          | refine Wk.call rfl rfl rfl rfl rfl (by kernel_rfl) rfl (aw _) rfl ?_
          | (refine Wk.done ?_; try dsimp only [sget])
          | refine Wc.ret ?_)
      exact ⟨1, by omega, rfl, .inr (.inl ⟨rfl, rfl, rfl, rfl⟩)⟩
    · simp only [canonL, e1, e4, e3, Nat.reduceAdd]
      repeat (first
          | refine Wc.seq ?_
          | refine Wc.region (by kernel_rfl) ?_
          | refine Wc.condT rfl rfl ?_
          | refine Wc.condF rfl rfl ?_
          | refine Wc.skip ?_
          | refine Wc.block ?_
          | refine Wc.exit ?_
          | refine Wk.move rfl rfl rfl rfl rfl ?_
          | refine Wk.assign rfl rfl rfl rfl rfl ?_
          | refine Wk.fieldAddr rfl rfl rfl rfl (by simp only [fieldAddrE, fieldOf, ti51, ti9, ti38, ti34, ti55, ti27, ti28]; rfl) rfl ?_
          | refine Wk.load rfl rfl rfl rfl (by simp only [loadE, ti51, ti9, ti38, ti34, ti55, ti27, ti28]; rfl) rfl ?_
          | refine Wk.builtin rfl rfl rfl (by simp only [builtinE, ti51, ti9, ti38, ti34, ti55, ti27, ti28]; rfl) rfl ?_
          | refine Wk.bin rfl rfl rfl rfl rfl rfl rfl rfl ?_
          | refine Wk.un rfl rfl rfl rfl rfl rfl ?_
          | refine Wk.pickT rfl rfl rfl rfl rfl rfl rfl ?_
          | refine Wk.pickF rfl rfl rfl rfl rfl rfl rfl ?_
          | refine Wk.skip rfl rfl rfl rfl ?_
          | refine Wk.box rfl rfl ti51 rfl rfl rfl rfl rfl ?_
          | refine Wk.box rfl rfl ti55 rfl rfl rfl rfl rfl ?_
          | refine Wk.buildSlice1 rfl rfl rfl rfl (hbs1 _) rfl ?_
          | refine Wk.buildSlice1 rfl rfl rfl rfl (hbs2 _) rfl ?_
          | refine Wk.build rfl rfl hb34 rfl ?_
          | refine Wk.build rfl rfl hb55 rfl ?_
          | refine Wk.extract rfl rfl rfl rfl rfl rfl ?_
          | refine Wk.call rfl rfl rfl rfl rfl (by kernel_rfl) rfl (few _) rfl ?_
          | refine Wk.call rfl rfl rfl rfl rfl (by kernel_rfl) rfl (ca12) rfl ?_
          | refine Wk.call rfl rfl rfl rfl rfl (by kernel_rfl) rfl (ca15) rfl ?_
          | refine Wk.call rfl rfl rfl rfl rfl (by kernel_rfl) rfl (ca14) rfl ?_
          | refine Wk.call rfl rfl rfl rfl rfl (by kernel_rfl) rfl (ca13) rfl ?_
          | refine Wk.call rfl rfl rfl rfl rfl (by kernel_rfl) rfl (cb12) rfl ?_
          | refine Wk.call rfl rfl rfl rfl rfl (by kernel_rfl) rfl (cb15) rfl ?_
          | refine Wk.call rfl rfl rfl rfl rfl (by kernel_rfl) rfl (cb14) rfl ?_
          | refine Wk.call rfl rfl rfl rfl rfl (by kernel_rfl) rfl (cb13) rfl ?_
          | refine Wk.call rfl rfl rfl rfl rfl (by kernel_rfl) rfl (cc9) rfl ?_
          | refine Wk.call rfl rfl rfl rfl rfl (by kernel_rfl) rfl (aw _) rfl ?_
          | (refine Wk.done ?_; try dsimp only [sget])
          | refine Wc.ret ?_)
      exact ⟨0, by omega, rfl, .inr (.inr ⟨rfl, rfl, rfl⟩)⟩
    · simp only [canonL, e1, e4, Nat.reduceAdd]
      repeat (first
          | refine Wc.seq ?_
          | refine Wc.region (by kernel_rfl) ?_
          | refine Wc.condT rfl rfl ?_
          | refine Wc.condF rfl rfl ?_
          | refine Wc.skip ?_
          | refine Wc.block ?_
          | refine Wc.exit ?_
          | refine Wk.move rfl rfl rfl rfl rfl ?_
          | refine Wk.assign rfl rfl rfl rfl rfl ?_
          | refine Wk.fieldAddr rfl rfl rfl rfl (by simp only [fieldAddrE, fieldOf, ti51, ti9, ti38, ti34, ti55, ti27, ti28]; rfl) rfl ?_
          | refine Wk.load rfl rfl rfl rfl (by simp only [loadE, ti51, ti9, ti38, ti34, ti55, ti27, ti28]; rfl) rfl ?_
          | refine Wk.builtin rfl rfl rfl (by simp only [builtinE, ti51, ti9, ti38, ti34, ti55, ti27, ti28]; rfl) rfl ?_
          | refine Wk.bin rfl rfl rfl rfl rfl rfl rfl rfl ?_
          | refine Wk.un rfl rfl rfl rfl rfl rfl ?_
          | refine Wk.pickT rfl rfl rfl rfl rfl rfl rfl ?_
          | refine Wk.pickF rfl rfl rfl rfl rfl rfl rfl ?_
          | refine Wk.skip rfl rfl rfl rfl ?_
          | refine Wk.box rfl rfl ti51 rfl rfl rfl rfl rfl ?_
          | refine Wk.box rfl rfl ti55 rfl rfl rfl rfl rfl ?_
          | refine Wk.buildSlice1 rfl rfl rfl rfl (hbs1 _) rfl ?_
          | refine Wk.buildSlice1 rfl rfl rfl rfl (hbs2 _) rfl ?_
          | refine Wk.build rfl rfl hb34 rfl ?_
          | refine Wk.build rfl rfl hb55 rfl ?_
          | refine Wk.extract rfl rfl rfl rfl rfl rfl ?_
          | refine Wk.call rfl rfl rfl rfl rfl (by kernel_rfl) rfl (few _) rfl ?_
          | refine Wk.call rfl rfl rfl rfl rfl (by kernel_rfl) rfl (ca12) rfl ?_
          | refine Wk.call rfl rfl rfl rfl rfl (by kernel_rfl) rfl (ca15) rfl ?_
          | refine Wk.call rfl rfl rfl rfl rfl (by kernel_rfl) rfl (ca14) rfl ?_
          | refine Wk.call rfl rfl rfl rfl rfl (by kernel_rfl) rfl (ca13) rfl ?_
          | refine Wk.call rfl rfl rfl rfl rfl (by kernel_rfl) rfl (cb12) rfl ?_
          | refine Wk.call rfl rfl rfl rfl rfl (by kernel_rfl) rfl (cb15) rfl ?_
          | refine Wk.call rfl rfl rfl rfl rfl (by kernel_rfl) rfl (cb14) rfl ?_
          | refine Wk.call rfl rfl rfl rfl rfl (by kernel_rfl) rfl (cb13) rfl ?_
          | refine Wk.call rfl rfl rfl rfl rfl (by kernel_rfl) rfl (cc9) rfl ?_
          | refine Wk.call rfl rfl rfl rfl rfl (by kernel_rfl) rfl (aw _) rfl ?_
          | (refine Wk.done ?_; try dsimp only [sget])
          | refine Wc.ret ?_)
      exact ⟨(fun _ h => by cases h), rfl, rfl, rfl⟩
end Go.Ev.Two
