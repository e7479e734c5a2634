/- Few, Short, ShortEp: which inputs the law speaks of. -/
import Derived.Test.YtnnebeidpkaobaaGreatDoorTrCtx2
set_option linter.unusedVariables false
set_option linter.unusedSimpArgs false
set_option linter.unusedSectionVars false
namespace Go.Ev.Two
open Go Go.Proofs
variable {prim : CallE → Nat → FuncId → List EV → St → Option (EV × St)}
set_option linter.unusedSimpArgs false
set_option maxRecDepth 10000
theorem ev_short' (i n k : Int) (u t : ByteArray) (s : St) : Ev C prim 39 [.agg [.int .i64 i, .str u, .str t, .int .i64 n, .int .i64 k]] s (.bool (decide ((u.size : Int) ≤ 400) && decide ((t.size : Int) ≤ 400))) s := by
  refine Ev.pure1 (by kernel_rfl) fn39 rfl (by kernel_rfl) (by kernel_rfl) (by kernel_rfl) ?_
  refine Wc.seq (Wc.region (by kernel_rfl) ?_)
  repeat (first
      | refine Wk.move rfl rfl rfl rfl rfl ?_
      | refine Wk.assign rfl rfl rfl rfl rfl ?_
      | refine Wk.fieldAddr rfl rfl rfl rfl (by simp only [fieldAddrE, fieldOf, ti47, ti49, ti9, ti51, ti38]; rfl) rfl ?_
      | refine Wk.load rfl rfl rfl rfl (by simp only [loadE, ti47, ti49, ti9, ti51, ti38]; rfl) rfl ?_
      | refine Wk.builtin rfl rfl rfl (by simp only [builtinE, ti47, ti49, ti9, ti51, ti38]; rfl) rfl ?_
      | refine Wk.bin rfl rfl rfl rfl rfl rfl rfl rfl ?_
      | refine Wk.un rfl rfl rfl rfl rfl rfl ?_
      | refine Wk.pickT rfl rfl rfl rfl rfl rfl rfl ?_
      | refine Wk.pickF rfl rfl rfl rfl rfl rfl rfl ?_
      | refine Wk.skip rfl rfl rfl rfl ?_
      | refine Wk.box (by kernel_rfl) rfl ti47 rfl rfl rfl rfl rfl ?_
      | refine Wk.box (by kernel_rfl) rfl ti49 rfl rfl rfl rfl rfl ?_
      | refine Wk.done ?_)
  refine Wc.seq (Wc.region (by kernel_rfl) ?_)
  repeat (first
      | refine Wk.move rfl rfl rfl rfl rfl ?_
      | refine Wk.assign rfl rfl rfl rfl rfl ?_
      | refine Wk.fieldAddr rfl rfl rfl rfl (by simp only [fieldAddrE, fieldOf, ti47, ti49, ti9, ti51, ti38]; rfl) rfl ?_
      | refine Wk.load rfl rfl rfl rfl (by simp only [loadE, ti47, ti49, ti9, ti51, ti38]; rfl) rfl ?_
      | refine Wk.builtin rfl rfl rfl (by simp only [builtinE, ti47, ti49, ti9, ti51, ti38]; rfl) rfl ?_
      | refine Wk.bin rfl rfl rfl rfl rfl rfl rfl rfl ?_
      | refine Wk.un rfl rfl rfl rfl rfl rfl ?_
      | refine Wk.pickT rfl rfl rfl rfl rfl rfl rfl ?_
      | refine Wk.pickF rfl rfl rfl rfl rfl rfl rfl ?_
      | refine Wk.skip rfl rfl rfl rfl ?_
      | refine Wk.box (by kernel_rfl) rfl ti47 rfl rfl rfl rfl rfl ?_
      | refine Wk.box (by kernel_rfl) rfl ti49 rfl rfl rfl rfl rfl ?_
      | refine Wk.done ?_)
  generalize hb : decide ((u.size : Int) ≤ 400) = b
  cases b
  all_goals
    repeat (first
        | refine Wk.move rfl rfl rfl rfl rfl ?_
        | refine Wk.assign rfl rfl rfl rfl rfl ?_
        | refine Wk.fieldAddr rfl rfl rfl rfl (by simp only [fieldAddrE, fieldOf, ti47, ti49, ti9, ti51, ti38]; rfl) rfl ?_
        | refine Wk.load rfl rfl rfl rfl (by simp only [loadE, ti47, ti49, ti9, ti51, ti38]; rfl) rfl ?_
        | refine Wk.builtin rfl rfl rfl (by simp only [builtinE, ti47, ti49, ti9, ti51, ti38]; rfl) rfl ?_
        | refine Wk.bin rfl rfl rfl rfl rfl rfl rfl rfl ?_
        | refine Wk.un rfl rfl rfl rfl rfl rfl ?_
        | refine Wk.pickT rfl rfl rfl rfl rfl rfl rfl ?_
        | refine Wk.pickF rfl rfl rfl rfl rfl rfl rfl ?_
        | refine Wk.skip rfl rfl rfl rfl ?_
        | refine Wk.box (by kernel_rfl) rfl ti47 rfl rfl rfl rfl rfl ?_
        | refine Wk.box (by kernel_rfl) rfl ti49 rfl rfl rfl rfl rfl ?_
        | refine Wk.done ?_)
    refine Wc.ret ?_
  · exact ⟨(fun _ h => by cases h), rfl, rfl, rfl⟩
  · refine ⟨(fun _ h => by cases h), ?_, rfl, rfl⟩
    simp
    rfl

set_option maxHeartbeats 4000000 in
theorem ev_shortEp' (i0 i1 i5 i6 i7 i8 i10 i11 i12 i14 i15 i17 i18 : Int) (b9 : Bool) (s2 s3 s4 s13 s16 s19 : ByteArray) (s : St) :
    Ev C prim 40 [.agg [.int .i64 i0, .int .i64 i1, .str s2, .str s3, .str s4, .int .i64 i5, .int .i64 i6, .int .i64 i7, .int .i64 i8, .bool b9, .int .i64 i10, .int .i64 i11, .int .i64 i12, .str s13, .int .i64 i14, .int .i64 i15, .str s16, .int .i64 i17, .int .i64 i18, .str s19]] s (.bool ((((((decide ((s2.size : Int) ≤ 400) && decide ((s3.size : Int) ≤ 400)) && decide ((s4.size : Int) ≤ 400)) && decide ((s13.size : Int) ≤ 400)) && decide ((s16.size : Int) ≤ 400)) && decide ((s19.size : Int) ≤ 400)))) s := by
  refine Ev.pure1 (by kernel_rfl) fn40 rfl (by kernel_rfl) (by kernel_rfl) (by kernel_rfl) ?_
  refine Wc.seq (Wc.region (by kernel_rfl) ?_)
  repeat (first
      | refine Wk.move rfl rfl rfl rfl rfl ?_
      | refine Wk.assign rfl rfl rfl rfl rfl ?_
      | refine Wk.fieldAddr rfl rfl rfl rfl (by simp only [fieldAddrE, fieldOf, ti47, ti49, ti9, ti51, ti38]; rfl) rfl ?_
      | refine Wk.load rfl rfl rfl rfl (by simp only [loadE, ti47, ti49, ti9, ti51, ti38]; rfl) rfl ?_
      | refine Wk.builtin rfl rfl rfl (by simp only [builtinE, ti47, ti49, ti9, ti51, ti38]; rfl) rfl ?_
      | refine Wk.bin rfl rfl rfl rfl rfl rfl rfl rfl ?_
      | refine Wk.un rfl rfl rfl rfl rfl rfl ?_
      | refine Wk.pickT rfl rfl rfl rfl rfl rfl rfl ?_
      | refine Wk.pickF rfl rfl rfl rfl rfl rfl rfl ?_
      | refine Wk.skip rfl rfl rfl rfl ?_
      | refine Wk.box (by kernel_rfl) rfl ti47 rfl rfl rfl rfl rfl ?_
      | refine Wk.box (by kernel_rfl) rfl ti49 rfl rfl rfl rfl rfl ?_
      | refine Wk.done ?_)
  refine Wc.seq (Wc.region (by kernel_rfl) ?_)
  repeat (first
      | refine Wk.move rfl rfl rfl rfl rfl ?_
      | refine Wk.assign rfl rfl rfl rfl rfl ?_
      | refine Wk.fieldAddr rfl rfl rfl rfl (by simp only [fieldAddrE, fieldOf, ti47, ti49, ti9, ti51, ti38]; rfl) rfl ?_
      | refine Wk.load rfl rfl rfl rfl (by simp only [loadE, ti47, ti49, ti9, ti51, ti38]; rfl) rfl ?_
      | refine Wk.builtin rfl rfl rfl (by simp only [builtinE, ti47, ti49, ti9, ti51, ti38]; rfl) rfl ?_
      | refine Wk.bin rfl rfl rfl rfl rfl rfl rfl rfl ?_
      | refine Wk.un rfl rfl rfl rfl rfl rfl ?_
      | refine Wk.pickT rfl rfl rfl rfl rfl rfl rfl ?_
      | refine Wk.pickF rfl rfl rfl rfl rfl rfl rfl ?_
      | refine Wk.skip rfl rfl rfl rfl ?_
      | refine Wk.box (by kernel_rfl) rfl ti47 rfl rfl rfl rfl rfl ?_
      | refine Wk.box (by kernel_rfl) rfl ti49 rfl rfl rfl rfl rfl ?_
      | refine Wk.done ?_)
  generalize hb0 : decide ((s2.size : Int) ≤ 400) = b100
  cases b100
  · repeat (first
        | refine Wk.move rfl rfl rfl rfl rfl ?_
        | refine Wk.assign rfl rfl rfl rfl rfl ?_
        | refine Wk.fieldAddr rfl rfl rfl rfl (by simp only [fieldAddrE, fieldOf, ti47, ti49, ti9, ti51, ti38]; rfl) rfl ?_
        | refine Wk.load rfl rfl rfl rfl (by simp only [loadE, ti47, ti49, ti9, ti51, ti38]; rfl) rfl ?_
        | refine Wk.builtin rfl rfl rfl (by simp only [builtinE, ti47, ti49, ti9, ti51, ti38]; rfl) rfl ?_
        | refine Wk.bin rfl rfl rfl rfl rfl rfl rfl rfl ?_
        | refine Wk.un rfl rfl rfl rfl rfl rfl ?_
        | refine Wk.pickT rfl rfl rfl rfl rfl rfl rfl ?_
        | refine Wk.pickF rfl rfl rfl rfl rfl rfl rfl ?_
        | refine Wk.skip rfl rfl rfl rfl ?_
        | refine Wk.box (by kernel_rfl) rfl ti47 rfl rfl rfl rfl rfl ?_
        | refine Wk.box (by kernel_rfl) rfl ti49 rfl rfl rfl rfl rfl ?_
        | refine Wk.done ?_)
    refine Wc.ret ?_
    exact ⟨(fun _ h => by cases h), rfl, rfl, rfl⟩
  repeat (first
      | refine Wk.move rfl rfl rfl rfl rfl ?_
      | refine Wk.assign rfl rfl rfl rfl rfl ?_
      | refine Wk.fieldAddr rfl rfl rfl rfl (by simp only [fieldAddrE, fieldOf, ti47, ti49, ti9, ti51, ti38]; rfl) rfl ?_
      | refine Wk.load rfl rfl rfl rfl (by simp only [loadE, ti47, ti49, ti9, ti51, ti38]; rfl) rfl ?_
      | refine Wk.builtin rfl rfl rfl (by simp only [builtinE, ti47, ti49, ti9, ti51, ti38]; rfl) rfl ?_
      | refine Wk.bin rfl rfl rfl rfl rfl rfl rfl rfl ?_
      | refine Wk.un rfl rfl rfl rfl rfl rfl ?_
      | refine Wk.pickT rfl rfl rfl rfl rfl rfl rfl ?_
      | refine Wk.pickF rfl rfl rfl rfl rfl rfl rfl ?_
      | refine Wk.skip rfl rfl rfl rfl ?_
      | refine Wk.box (by kernel_rfl) rfl ti47 rfl rfl rfl rfl rfl ?_
      | refine Wk.box (by kernel_rfl) rfl ti49 rfl rfl rfl rfl rfl ?_
      | refine Wk.done ?_)
  generalize hb1 : decide ((s3.size : Int) ≤ 400) = b101
  cases b101
  · repeat (first
        | refine Wk.move rfl rfl rfl rfl rfl ?_
        | refine Wk.assign rfl rfl rfl rfl rfl ?_
        | refine Wk.fieldAddr rfl rfl rfl rfl (by simp only [fieldAddrE, fieldOf, ti47, ti49, ti9, ti51, ti38]; rfl) rfl ?_
        | refine Wk.load rfl rfl rfl rfl (by simp only [loadE, ti47, ti49, ti9, ti51, ti38]; rfl) rfl ?_
        | refine Wk.builtin rfl rfl rfl (by simp only [builtinE, ti47, ti49, ti9, ti51, ti38]; rfl) rfl ?_
        | refine Wk.bin rfl rfl rfl rfl rfl rfl rfl rfl ?_
        | refine Wk.un rfl rfl rfl rfl rfl rfl ?_
        | refine Wk.pickT rfl rfl rfl rfl rfl rfl rfl ?_
        | refine Wk.pickF rfl rfl rfl rfl rfl rfl rfl ?_
        | refine Wk.skip rfl rfl rfl rfl ?_
        | refine Wk.box (by kernel_rfl) rfl ti47 rfl rfl rfl rfl rfl ?_
        | refine Wk.box (by kernel_rfl) rfl ti49 rfl rfl rfl rfl rfl ?_
        | refine Wk.done ?_)
    refine Wc.ret ?_
    exact ⟨(fun _ h => by cases h), rfl, rfl, rfl⟩
  repeat (first
      | refine Wk.move rfl rfl rfl rfl rfl ?_
      | refine Wk.assign rfl rfl rfl rfl rfl ?_
      | refine Wk.fieldAddr rfl rfl rfl rfl (by simp only [fieldAddrE, fieldOf, ti47, ti49, ti9, ti51, ti38]; rfl) rfl ?_
      | refine Wk.load rfl rfl rfl rfl (by simp only [loadE, ti47, ti49, ti9, ti51, ti38]; rfl) rfl ?_
      | refine Wk.builtin rfl rfl rfl (by simp only [builtinE, ti47, ti49, ti9, ti51, ti38]; rfl) rfl ?_
      | refine Wk.bin rfl rfl rfl rfl rfl rfl rfl rfl ?_
      | refine Wk.un rfl rfl rfl rfl rfl rfl ?_
      | refine Wk.pickT rfl rfl rfl rfl rfl rfl rfl ?_
      | refine Wk.pickF rfl rfl rfl rfl rfl rfl rfl ?_
      | refine Wk.skip rfl rfl rfl rfl ?_
      | refine Wk.box (by kernel_rfl) rfl ti47 rfl rfl rfl rfl rfl ?_
      | refine Wk.box (by kernel_rfl) rfl ti49 rfl rfl rfl rfl rfl ?_
      | refine Wk.done ?_)
  generalize hb2 : decide ((s4.size : Int) ≤ 400) = b102
  cases b102
  · repeat (first
        | refine Wk.move rfl rfl rfl rfl rfl ?_
        | refine Wk.assign rfl rfl rfl rfl rfl ?_
        | refine Wk.fieldAddr rfl rfl rfl rfl (by simp only [fieldAddrE, fieldOf, ti47, ti49, ti9, ti51, ti38]; rfl) rfl ?_
        | refine Wk.load rfl rfl rfl rfl (by simp only [loadE, ti47, ti49, ti9, ti51, ti38]; rfl) rfl ?_
        | refine Wk.builtin rfl rfl rfl (by simp only [builtinE, ti47, ti49, ti9, ti51, ti38]; rfl) rfl ?_
        | refine Wk.bin rfl rfl rfl rfl rfl rfl rfl rfl ?_
        | refine Wk.un rfl rfl rfl rfl rfl rfl ?_
        | refine Wk.pickT rfl rfl rfl rfl rfl rfl rfl ?_
        | refine Wk.pickF rfl rfl rfl rfl rfl rfl rfl ?_
        | refine Wk.skip rfl rfl rfl rfl ?_
        | refine Wk.box (by kernel_rfl) rfl ti47 rfl rfl rfl rfl rfl ?_
        | refine Wk.box (by kernel_rfl) rfl ti49 rfl rfl rfl rfl rfl ?_
        | refine Wk.done ?_)
    refine Wc.ret ?_
    exact ⟨(fun _ h => by cases h), rfl, rfl, rfl⟩
  repeat (first
      | refine Wk.move rfl rfl rfl rfl rfl ?_
      | refine Wk.assign rfl rfl rfl rfl rfl ?_
      | refine Wk.fieldAddr rfl rfl rfl rfl (by simp only [fieldAddrE, fieldOf, ti47, ti49, ti9, ti51, ti38]; rfl) rfl ?_
      | refine Wk.load rfl rfl rfl rfl (by simp only [loadE, ti47, ti49, ti9, ti51, ti38]; rfl) rfl ?_
      | refine Wk.builtin rfl rfl rfl (by simp only [builtinE, ti47, ti49, ti9, ti51, ti38]; rfl) rfl ?_
      | refine Wk.bin rfl rfl rfl rfl rfl rfl rfl rfl ?_
      | refine Wk.un rfl rfl rfl rfl rfl rfl ?_
      | refine Wk.pickT rfl rfl rfl rfl rfl rfl rfl ?_
      | refine Wk.pickF rfl rfl rfl rfl rfl rfl rfl ?_
      | refine Wk.skip rfl rfl rfl rfl ?_
      | refine Wk.box (by kernel_rfl) rfl ti47 rfl rfl rfl rfl rfl ?_
      | refine Wk.box (by kernel_rfl) rfl ti49 rfl rfl rfl rfl rfl ?_
      | refine Wk.done ?_)
  generalize hb3 : decide ((s13.size : Int) ≤ 400) = b103
  cases b103
  · repeat (first
        | refine Wk.move rfl rfl rfl rfl rfl ?_
        | refine Wk.assign rfl rfl rfl rfl rfl ?_
        | refine Wk.fieldAddr rfl rfl rfl rfl (by simp only [fieldAddrE, fieldOf, ti47, ti49, ti9, ti51, ti38]; rfl) rfl ?_
        | refine Wk.load rfl rfl rfl rfl (by simp only [loadE, ti47, ti49, ti9, ti51, ti38]; rfl) rfl ?_
        | refine Wk.builtin rfl rfl rfl (by simp only [builtinE, ti47, ti49, ti9, ti51, ti38]; rfl) rfl ?_
        | refine Wk.bin rfl rfl rfl rfl rfl rfl rfl rfl ?_
        | refine Wk.un rfl rfl rfl rfl rfl rfl ?_
        | refine Wk.pickT rfl rfl rfl rfl rfl rfl rfl ?_
        | refine Wk.pickF rfl rfl rfl rfl rfl rfl rfl ?_
        | refine Wk.skip rfl rfl rfl rfl ?_
        | refine Wk.box (by kernel_rfl) rfl ti47 rfl rfl rfl rfl rfl ?_
        | refine Wk.box (by kernel_rfl) rfl ti49 rfl rfl rfl rfl rfl ?_
        | refine Wk.done ?_)
    refine Wc.ret ?_
    exact ⟨(fun _ h => by cases h), rfl, rfl, rfl⟩
  repeat (first
      | refine Wk.move rfl rfl rfl rfl rfl ?_
      | refine Wk.assign rfl rfl rfl rfl rfl ?_
      | refine Wk.fieldAddr rfl rfl rfl rfl (by simp only [fieldAddrE, fieldOf, ti47, ti49, ti9, ti51, ti38]; rfl) rfl ?_
      | refine Wk.load rfl rfl rfl rfl (by simp only [loadE, ti47, ti49, ti9, ti51, ti38]; rfl) rfl ?_
      | refine Wk.builtin rfl rfl rfl (by simp only [builtinE, ti47, ti49, ti9, ti51, ti38]; rfl) rfl ?_
      | refine Wk.bin rfl rfl rfl rfl rfl rfl rfl rfl ?_
      | refine Wk.un rfl rfl rfl rfl rfl rfl ?_
      | refine Wk.pickT rfl rfl rfl rfl rfl rfl rfl ?_
      | refine Wk.pickF rfl rfl rfl rfl rfl rfl rfl ?_
      | refine Wk.skip rfl rfl rfl rfl ?_
      | refine Wk.box (by kernel_rfl) rfl ti47 rfl rfl rfl rfl rfl ?_
      | refine Wk.box (by kernel_rfl) rfl ti49 rfl rfl rfl rfl rfl ?_
      | refine Wk.done ?_)
  generalize hb4 : decide ((s16.size : Int) ≤ 400) = b104
  cases b104
  · repeat (first
        | refine Wk.move rfl rfl rfl rfl rfl ?_
        | refine Wk.assign rfl rfl rfl rfl rfl ?_
        | refine Wk.fieldAddr rfl rfl rfl rfl (by simp only [fieldAddrE, fieldOf, ti47, ti49, ti9, ti51, ti38]; rfl) rfl ?_
        | refine Wk.load rfl rfl rfl rfl (by simp only [loadE, ti47, ti49, ti9, ti51, ti38]; rfl) rfl ?_
        | refine Wk.builtin rfl rfl rfl (by simp only [builtinE, ti47, ti49, ti9, ti51, ti38]; rfl) rfl ?_
        | refine Wk.bin rfl rfl rfl rfl rfl rfl rfl rfl ?_
        | refine Wk.un rfl rfl rfl rfl rfl rfl ?_
        | refine Wk.pickT rfl rfl rfl rfl rfl rfl rfl ?_
        | refine Wk.pickF rfl rfl rfl rfl rfl rfl rfl ?_
        | refine Wk.skip rfl rfl rfl rfl ?_
        | refine Wk.box (by kernel_rfl) rfl ti47 rfl rfl rfl rfl rfl ?_
        | refine Wk.box (by kernel_rfl) rfl ti49 rfl rfl rfl rfl rfl ?_
        | refine Wk.done ?_)
    refine Wc.ret ?_
    exact ⟨(fun _ h => by cases h), rfl, rfl, rfl⟩
  repeat (first
      | refine Wk.move rfl rfl rfl rfl rfl ?_
      | refine Wk.assign rfl rfl rfl rfl rfl ?_
      | refine Wk.fieldAddr rfl rfl rfl rfl (by simp only [fieldAddrE, fieldOf, ti47, ti49, ti9, ti51, ti38]; rfl) rfl ?_
      | refine Wk.load rfl rfl rfl rfl (by simp only [loadE, ti47, ti49, ti9, ti51, ti38]; rfl) rfl ?_
      | refine Wk.builtin rfl rfl rfl (by simp only [builtinE, ti47, ti49, ti9, ti51, ti38]; rfl) rfl ?_
      | refine Wk.bin rfl rfl rfl rfl rfl rfl rfl rfl ?_
      | refine Wk.un rfl rfl rfl rfl rfl rfl ?_
      | refine Wk.pickT rfl rfl rfl rfl rfl rfl rfl ?_
      | refine Wk.pickF rfl rfl rfl rfl rfl rfl rfl ?_
      | refine Wk.skip rfl rfl rfl rfl ?_
      | refine Wk.box (by kernel_rfl) rfl ti47 rfl rfl rfl rfl rfl ?_
      | refine Wk.box (by kernel_rfl) rfl ti49 rfl rfl rfl rfl rfl ?_
      | refine Wk.done ?_)
  refine Wc.ret ?_
  exact ⟨(fun _ h => by cases h), rfl, rfl, rfl⟩

set_option maxHeartbeats 4000000 in
theorem ev_few (c0 f0 f3 f4 c1 c2 i0 i1 i5 i6 i7 i8 i10 i11 i12 i14 i15 i17 i18 : Int) (b9 : Bool) (f1 f2 s2 s3 s4 s13 s16 s19 : ByteArray) :
    ∃ b, ∀ s, Ev C prim 17 [.sl 0 true 28 [[.int .i64 c0, .int .i64 f0, .str f1, .str f2, .int .i64 f3, .int .i64 f4, .int .i64 i0, .int .i64 i1, .str s2, .str s3, .str s4, .int .i64 i5, .int .i64 i6, .int .i64 i7, .int .i64 i8, .bool b9, .int .i64 i10, .int .i64 i11, .int .i64 i12, .str s13, .int .i64 i14, .int .i64 i15, .str s16, .int .i64 i17, .int .i64 i18, .str s19, .int .i64 c1, .int .i64 c2]]] s (.bool b) s := by
  obtain ⟨b1, e1⟩ : ∃ b, ∀ s, Ev C prim 39 [.agg [.int .i64 f0, .str f1, .str f2, .int .i64 f3, .int .i64 f4]] s (.bool b) s := ⟨_, fun s => ev_short' _ _ _ _ _ _⟩
  obtain ⟨b2, e2⟩ : ∃ b, ∀ s, Ev C prim 40 [.agg [.int .i64 i0, .int .i64 i1, .str s2, .str s3, .str s4, .int .i64 i5, .int .i64 i6, .int .i64 i7, .int .i64 i8, .bool b9, .int .i64 i10, .int .i64 i11, .int .i64 i12, .str s13, .int .i64 i14, .int .i64 i15, .str s16, .int .i64 i17, .int .i64 i18, .str s19]] s (.bool b) s := ⟨_, fun s => ev_shortEp' _ _ _ _ _ _ _ _ _ _ _ _ _ _ _ _ _ _ _ _ _⟩
  refine ⟨b1 && b2, fun s => Ev.pure1 (by kernel_rfl) fn17 rfl (by kernel_rfl) (by kernel_rfl) (by kernel_rfl) ?_⟩
  change Wc _ _ _ _ 29 _ _ _ _
  repeat (first
      | refine Wc.seq ?_
      | refine Wc.region (by kernel_rfl) ?_
      | refine Wc.condT rfl rfl ?_
      | refine Wc.condF rfl rfl ?_
      | refine Wc.skip ?_
      | refine Wc.block ?_
      | refine Wc.exit ?_
      | refine Wk.move rfl rfl rfl rfl rfl ?_
      | refine Wk.assign rfl rfl rfl rfl rfl ?_
      | refine Wk.fieldAddr rfl rfl rfl rfl (by simp only [fieldAddrE, fieldOf, ti47, ti49, ti9, ti51, ti38]; rfl) rfl ?_
      | refine Wk.load rfl rfl rfl rfl (by simp only [loadE, ti47, ti49, ti9, ti51, ti38]; rfl) rfl ?_
      | refine Wk.builtin rfl rfl rfl (by simp only [builtinE, ti47, ti49, ti9, ti51, ti38]; rfl) rfl ?_
      | refine Wk.bin rfl rfl rfl rfl rfl rfl rfl rfl ?_
      | refine Wk.un rfl rfl rfl rfl rfl rfl ?_
      | refine Wk.pickT rfl rfl rfl rfl rfl rfl rfl ?_
      | refine Wk.pickF rfl rfl rfl rfl rfl rfl rfl ?_
      | refine Wk.skip rfl rfl rfl rfl ?_
      | refine Wk.indexAddr rfl rfl rfl rfl rfl rfl (by simp only [indexAddrE, ti38, ti51]; rfl) rfl ?_
      | refine Wk.call rfl rfl rfl rfl rfl (by kernel_rfl) rfl (e1 _) rfl ?_
      | refine Wk.call rfl rfl rfl rfl rfl (by kernel_rfl) rfl (e2 _) rfl ?_
      | (refine Wk.done ?_; try dsimp only [sget])
      | refine Wc.ret ?_)
  refine Wc.loopC (fun m g s => s = ⟨[], 0⟩ ∧ g 0 = .sl 0 true 28 [[.int .i64 c0, .int .i64 f0, .str f1, .str f2, .int .i64 f3, .int .i64 f4, .int .i64 i0, .int .i64 i1, .str s2, .str s3, .str s4, .int .i64 i5, .int .i64 i6, .int .i64 i7, .int .i64 i8, .bool b9, .int .i64 i10, .int .i64 i11, .int .i64 i12, .str s13, .int .i64 i14, .int .i64 i15, .str s16, .int .i64 i17, .int .i64 i18, .str s19, .int .i64 c1, .int .i64 c2]] ∧ ((m = 1 ∧ g 3 = .int .i64 0) ∨ (m = 0 ∧ b1 = true ∧ b2 = true ∧ g 3 = .int .i64 1))) 1 ⟨rfl, rfl, .inl ⟨rfl, rfl⟩⟩ ?_
  rintro m g s ⟨rfl, h0, ⟨rfl, h3⟩ | ⟨rfl, rfl, rfl, h3⟩⟩
  · simp only [canonL, h0, h3, Nat.reduceAdd]
    cases b1 with
    | false =>
      repeat (first
          | refine Wc.seq ?_
          | refine Wc.region (by kernel_rfl) ?_
          | refine Wc.condT rfl rfl ?_
          | refine Wc.condF rfl rfl ?_
          | refine Wc.skip ?_
          | refine Wc.block ?_
          | refine Wc.exit ?_
          | refine Wk.move rfl rfl rfl rfl rfl ?_
          | refine Wk.assign rfl rfl rfl rfl rfl ?_
          | refine Wk.fieldAddr rfl rfl rfl rfl (by simp only [fieldAddrE, fieldOf, ti47, ti49, ti9, ti51, ti38]; rfl) rfl ?_
          | refine Wk.load rfl rfl rfl rfl (by simp only [loadE, ti47, ti49, ti9, ti51, ti38]; rfl) rfl ?_
          | refine Wk.builtin rfl rfl rfl (by simp only [builtinE, ti47, ti49, ti9, ti51, ti38]; rfl) rfl ?_
          | refine Wk.bin rfl rfl rfl rfl rfl rfl rfl rfl ?_
          | refine Wk.un rfl rfl rfl rfl rfl rfl ?_
          | refine Wk.pickT rfl rfl rfl rfl rfl rfl rfl ?_
          | refine Wk.pickF rfl rfl rfl rfl rfl rfl rfl ?_
          | refine Wk.skip rfl rfl rfl rfl ?_
          | refine Wk.indexAddr rfl rfl rfl rfl rfl rfl (by simp only [indexAddrE, ti38, ti51]; rfl) rfl ?_
          | refine Wk.call rfl rfl rfl rfl rfl (by kernel_rfl) rfl (e1 _) rfl ?_
          | refine Wk.call rfl rfl rfl rfl rfl (by kernel_rfl) rfl (e2 _) rfl ?_
          | (refine Wk.done ?_; try dsimp only [sget])
          | refine Wc.ret ?_)
      exact ⟨(fun _ h => by cases h), rfl, rfl, rfl⟩
    | true => cases b2 with
      | false =>
        repeat (first
            | refine Wc.seq ?_
            | refine Wc.region (by kernel_rfl) ?_
            | refine Wc.condT rfl rfl ?_
            | refine Wc.condF rfl rfl ?_
            | refine Wc.skip ?_
            | refine Wc.block ?_
            | refine Wc.exit ?_
            | refine Wk.move rfl rfl rfl rfl rfl ?_
            | refine Wk.assign rfl rfl rfl rfl rfl ?_
            | refine Wk.fieldAddr rfl rfl rfl rfl (by simp only [fieldAddrE, fieldOf, ti47, ti49, ti9, ti51, ti38]; rfl) rfl ?_
            | refine Wk.load rfl rfl rfl rfl (by simp only [loadE, ti47, ti49, ti9, ti51, ti38]; rfl) rfl ?_
            | refine Wk.builtin rfl rfl rfl (by simp only [builtinE, ti47, ti49, ti9, ti51, ti38]; rfl) rfl ?_
            | refine Wk.bin rfl rfl rfl rfl rfl rfl rfl rfl ?_
            | refine Wk.un rfl rfl rfl rfl rfl rfl ?_
            | refine Wk.pickT rfl rfl rfl rfl rfl rfl rfl ?_
            | refine Wk.pickF rfl rfl rfl rfl rfl rfl rfl ?_
            | refine Wk.skip rfl rfl rfl rfl ?_
            | refine Wk.indexAddr rfl rfl rfl rfl rfl rfl (by simp only [indexAddrE, ti38, ti51]; rfl) rfl ?_
            | refine Wk.call rfl rfl rfl rfl rfl (by kernel_rfl) rfl (e1 _) rfl ?_
            | refine Wk.call rfl rfl rfl rfl rfl (by kernel_rfl) rfl (e2 _) rfl ?_
            | (refine Wk.done ?_; try dsimp only [sget])
            | refine Wc.ret ?_)
        exact ⟨(fun _ h => by cases h), rfl, rfl, rfl⟩
      | true =>
        repeat (first
            | refine Wc.seq ?_
            | refine Wc.region (by kernel_rfl) ?_
            | refine Wc.condT rfl rfl ?_
            | refine Wc.condF rfl rfl ?_
            | refine Wc.skip ?_
            | refine Wc.block ?_
            | refine Wc.exit ?_
            | refine Wk.move rfl rfl rfl rfl rfl ?_
            | refine Wk.assign rfl rfl rfl rfl rfl ?_
            | refine Wk.fieldAddr rfl rfl rfl rfl (by simp only [fieldAddrE, fieldOf, ti47, ti49, ti9, ti51, ti38]; rfl) rfl ?_
            | refine Wk.load rfl rfl rfl rfl (by simp only [loadE, ti47, ti49, ti9, ti51, ti38]; rfl) rfl ?_
            | refine Wk.builtin rfl rfl rfl (by simp only [builtinE, ti47, ti49, ti9, ti51, ti38]; rfl) rfl ?_
            | refine Wk.bin rfl rfl rfl rfl rfl rfl rfl rfl ?_
            | refine Wk.un rfl rfl rfl rfl rfl rfl ?_
            | refine Wk.pickT rfl rfl rfl rfl rfl rfl rfl ?_
            | refine Wk.pickF rfl rfl rfl rfl rfl rfl rfl ?_
            | refine Wk.skip rfl rfl rfl rfl ?_
            | refine Wk.indexAddr rfl rfl rfl rfl rfl rfl (by simp only [indexAddrE, ti38, ti51]; rfl) rfl ?_
            | refine Wk.call rfl rfl rfl rfl rfl (by kernel_rfl) rfl (e1 _) rfl ?_
            | refine Wk.call rfl rfl rfl rfl rfl (by kernel_rfl) rfl (e2 _) rfl ?_
            | (refine Wk.done ?_; try dsimp only [sget])
            | refine Wc.ret ?_)
        exact ⟨0, Nat.zero_lt_one, rfl, rfl, .inr ⟨rfl, rfl, rfl, rfl⟩⟩
  · simp only [canonL, h0, h3, Nat.reduceAdd]
    repeat (first
        | refine Wc.seq ?_
        | refine Wc.region (by kernel_rfl) ?_
        | refine Wc.condT rfl rfl ?_
        | refine Wc.condF rfl rfl ?_
        | refine Wc.skip ?_
        | refine Wc.block ?_
        | refine Wc.exit ?_
        | refine Wk.move rfl rfl rfl rfl rfl ?_
        | refine Wk.assign rfl rfl rfl rfl rfl ?_
        | refine Wk.fieldAddr rfl rfl rfl rfl (by simp only [fieldAddrE, fieldOf, ti47, ti49, ti9, ti51, ti38]; rfl) rfl ?_
        | refine Wk.load rfl rfl rfl rfl (by simp only [loadE, ti47, ti49, ti9, ti51, ti38]; rfl) rfl ?_
        | refine Wk.builtin rfl rfl rfl (by simp only [builtinE, ti47, ti49, ti9, ti51, ti38]; rfl) rfl ?_
        | refine Wk.bin rfl rfl rfl rfl rfl rfl rfl rfl ?_
        | refine Wk.un rfl rfl rfl rfl rfl rfl ?_
        | refine Wk.pickT rfl rfl rfl rfl rfl rfl rfl ?_
        | refine Wk.pickF rfl rfl rfl rfl rfl rfl rfl ?_
        | refine Wk.skip rfl rfl rfl rfl ?_
        | refine Wk.indexAddr rfl rfl rfl rfl rfl rfl (by simp only [indexAddrE, ti38, ti51]; rfl) rfl ?_
        | refine Wk.call rfl rfl rfl rfl rfl (by kernel_rfl) rfl (e1 _) rfl ?_
        | refine Wk.call rfl rfl rfl rfl rfl (by kernel_rfl) rfl (e2 _) rfl ?_
        | (refine Wk.done ?_; try dsimp only [sget])
        | refine Wc.ret ?_)
    exact ⟨(fun _ h => by cases h), rfl, rfl, rfl⟩
end Go.Ev.Two
