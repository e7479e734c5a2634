/- The checksum: what its functions answer. -/
import Derived.Test.YtnnebeidpkaobaaGreatDoorTrCtx
import Derived.Test.YtnnebeidpkaobaaGreatDoorEvCrc
import Derived.Test.YtnnebeidpkaobaaGreatDoorTrPrimOnce
set_option linter.unusedVariables false
set_option linter.unusedSimpArgs false
set_option linter.unusedSectionVars false
namespace Go.Ev
open Go Go.Proofs
variable {prim : CallE → Nat → FuncId → List EV → St → Option (EV × St)}
set_option maxRecDepth 10000
set_option linter.unusedSimpArgs false

theorem set_take {s : St} {b : Nat} {k : Blk} {v : EV} : cut s.h.length v { h := s.h.set b k, keep := s.keep } = { h := s.h.set b k, keep := s.keep } := by
  unfold cut
  rw [List.take_of_length_le (by simp; omega)]

set_option maxHeartbeats 4000000 in
theorem ev_make {s : St} {b g : Nat} {k : Blk} (x0 x1 x2 : EV) (Z : List EV) (hk : s.h[b]? = some k) (hg : k.gen = g) (hf : k.frz = false) (hc : k.cells = [x0, x1, x2] ++ Z) (hZ : Z.length = 256) :
    Ev C prim 222 [.ptr b g 0] s (.tup []) { h := s.h.set b { k with cells := [x0, x1, x2] ++ crcTab }, keep := s.keep } := by
  have hbl : b < s.h.length := (List.getElem?_eq_some_iff.1 hk).1
  refine Ev.full0 (by kernel_rfl) fn222 rfl ?_ (by kernel_rfl) (by kernel_rfl) ?_
  · have : Nat.beq (refsL [EV.ptr b g 0]) 0 = false := by simp [refsL, EV.refs]; rfl
    rw [this, Bool.and_false]
  change Wc _ _ _ _ 27 _ _ _ _
  repeat (first
      | refine Wc.seq ?_
      | refine Wc.region (by kernel_rfl) ?_
      | refine Wc.condT rfl rfl ?_
      | refine Wc.condF rfl rfl ?_
      | refine Wc.skip ?_
      | refine Wc.block ?_
      | refine Wc.exit ?_
      | refine Wk.move rfl rfl rfl rfl rfl ?_
      | refine Wk.assign rfl rfl rfl rfl rfl ?_
      | refine Wk.fieldAddr rfl rfl rfl rfl (by simp only [fieldAddrE, fieldOf, ti94, ti5, ti3, ti71, ti258, ti256, ti244]; rfl) rfl ?_
      | refine Wk.load rfl rfl rfl rfl (by simp only [loadE, ti94, ti5, ti3, ti71, ti258, ti256, ti244]; rfl) rfl ?_
      | refine Wk.builtin rfl rfl rfl (by simp only [builtinE, ti94, ti5, ti3, ti71, ti258, ti256, ti244]; rfl) rfl ?_
      | refine Wk.bin rfl rfl rfl rfl rfl rfl rfl rfl ?_
      | refine Wk.un rfl rfl rfl rfl rfl rfl ?_
      | refine Wk.pickT rfl rfl rfl rfl rfl rfl rfl ?_
      | refine Wk.pickF rfl rfl rfl rfl rfl rfl rfl ?_
      | refine Wk.skip rfl rfl rfl rfl ?_
      | refine Wk.nilCheck rfl rfl rfl rfl rfl ?_
      | refine Wk.makeFunc rfl rfl rfl rfl rfl ?_
      | refine Wk.conv rfl rfl rfl rfl (by simp only [convE, ti3, ti94, ti5]; rfl) rfl ?_
      | (refine Wk.done ?_; try dsimp only [sget])
      | refine Wc.ret ?_)
  refine Wc.loopC (fun m gg st => ∃ i : Nat, i ≤ 256 ∧ m = 256 - i ∧ gg 0 = .ptr b g 0 ∧ gg 4 = .int .i64 (i : Int) ∧ st = { h := s.h.set b { k with cells := [x0, x1, x2] ++ (crcTab.take i ++ Z.drop i) }, keep := s.keep }) 256 ⟨0, by omega, rfl, rfl, rfl, ?_⟩ ?_
  · simp only [List.take_zero, List.nil_append, List.drop_zero, ← hc]
    have : s.h.set b k = s.h := by
      refine List.ext_getElem? fun j => ?_
      rw [List.getElem?_set]
      split
      · rename_i e; subst e; first | exact hk.symm | simp [hbl, hk]
      · rfl
    rw [this]
  rintro m gg st ⟨i, hi, rfl, h0, h4, rfl⟩
  simp only [canonL, h0, h4, Nat.reduceAdd]
  by_cases hlt : i < 256
  · have hd : decide ((i : Int) < 256) = true := by simp; omega
    repeat (first
        | refine Wc.seq ?_
        | refine Wc.region (by kernel_rfl) ?_
        | refine Wc.condT rfl rfl ?_
        | refine Wc.condF rfl rfl ?_
        | refine Wc.skip ?_
        | refine Wc.block ?_
        | refine Wc.exit ?_
        | refine Wk.move rfl rfl rfl rfl rfl ?_
        | refine Wk.assign rfl rfl rfl rfl rfl ?_
        | refine Wk.fieldAddr rfl rfl rfl rfl (by simp only [fieldAddrE, fieldOf, ti94, ti5, ti3, ti71, ti258, ti256, ti244]; rfl) rfl ?_
        | refine Wk.load rfl rfl rfl rfl (by simp only [loadE, ti94, ti5, ti3, ti71, ti258, ti256, ti244]; rfl) rfl ?_
        | refine Wk.builtin rfl rfl rfl (by simp only [builtinE, ti94, ti5, ti3, ti71, ti258, ti256, ti244]; rfl) rfl ?_
        | refine Wk.bin rfl rfl rfl rfl rfl rfl rfl rfl ?_
        | refine Wk.un rfl rfl rfl rfl rfl rfl ?_
        | refine Wk.pickT rfl rfl rfl rfl rfl rfl rfl ?_
        | refine Wk.pickF rfl rfl rfl rfl rfl rfl rfl ?_
        | refine Wk.skip rfl rfl rfl rfl ?_
        | refine Wk.nilCheck rfl rfl rfl rfl rfl ?_
        | refine Wk.makeFunc rfl rfl rfl rfl rfl ?_
        | refine Wk.conv rfl rfl rfl rfl (by simp only [convE, ti3, ti94, ti5]; rfl) rfl ?_
        | (refine Wk.done ?_; try dsimp only [sget])
        | refine Wc.ret ?_)
    simp only [hd]
    repeat (first
        | refine Wc.seq ?_
        | refine Wc.region (by kernel_rfl) ?_
        | refine Wc.condT rfl rfl ?_
        | refine Wc.condF rfl rfl ?_
        | refine Wc.skip ?_
        | refine Wc.block ?_
        | refine Wc.exit ?_
        | refine Wk.move rfl rfl rfl rfl rfl ?_
        | refine Wk.assign rfl rfl rfl rfl rfl ?_
        | refine Wk.fieldAddr rfl rfl rfl rfl (by simp only [fieldAddrE, fieldOf, ti94, ti5, ti3, ti71, ti258, ti256, ti244]; rfl) rfl ?_
        | refine Wk.load rfl rfl rfl rfl (by simp only [loadE, ti94, ti5, ti3, ti71, ti258, ti256, ti244]; rfl) rfl ?_
        | refine Wk.builtin rfl rfl rfl (by simp only [builtinE, ti94, ti5, ti3, ti71, ti258, ti256, ti244]; rfl) rfl ?_
        | refine Wk.bin rfl rfl rfl rfl rfl rfl rfl rfl ?_
        | refine Wk.un rfl rfl rfl rfl rfl rfl ?_
        | refine Wk.pickT rfl rfl rfl rfl rfl rfl rfl ?_
        | refine Wk.pickF rfl rfl rfl rfl rfl rfl rfl ?_
        | refine Wk.skip rfl rfl rfl rfl ?_
        | refine Wk.nilCheck rfl rfl rfl rfl rfl ?_
        | refine Wk.makeFunc rfl rfl rfl rfl rfl ?_
        | refine Wk.conv rfl rfl rfl rfl (by simp only [convE, ti3, ti94, ti5]; rfl) rfl ?_
        | (refine Wk.done ?_; try dsimp only [sget])
        | refine Wc.ret ?_)
    refine Wc.loopC (fun m2 g2 s2 => ∃ j : Nat, j ≤ 8 ∧ m2 = 8 - j ∧ g2 0 = .ptr b g 0 ∧ g2 2 = .int .i64 (i : Int) ∧ g2 4 = .int .i64 (i : Int) ∧ g2 9 = .int .i64 (j : Int) ∧ g2 3 = .int .u32 (iterBit j i : Nat) ∧ s2 = { h := s.h.set b { k with cells := [x0, x1, x2] ++ (crcTab.take i ++ Z.drop i) }, keep := s.keep }) 8 ⟨0, by omega, rfl, rfl, rfl, rfl, rfl, ?_, rfl⟩ ?_
    · show EV.int .u32 (IntKind.u32.wrap (i : Int)) = _
      rw [wrap_u32]; congr 1; simp only [iterBit]; omega
    rintro m g2 s2 ⟨j, hj, rfl, e0, e2, e4, e9, e3, rfl⟩
    simp only [canonL, e0, e2, e4, e9, e3, Nat.reduceAdd]
    by_cases hjl : j < 8
    · have hd2 : decide ((j : Int) < 8) = true := by simp; omega
      have hw : IntKind.i64.wrap ((j : Int) + 1) = ((j + 1 : Nat) : Int) := by rw [IntKind.wrap_i64]; omega
      have hcl : iterBit j i < 4294967296 := iterBit_lt j (by omega)
      generalize hcc : iterBit j i = c at hcl
      repeat (first
          | refine Wc.seq ?_
          | refine Wc.region (by kernel_rfl) ?_
          | refine Wc.condT rfl rfl ?_
          | refine Wc.condF rfl rfl ?_
          | refine Wc.skip ?_
          | refine Wc.block ?_
          | refine Wc.exit ?_
          | refine Wk.move rfl rfl rfl rfl rfl ?_
          | refine Wk.assign rfl rfl rfl rfl rfl ?_
          | refine Wk.fieldAddr rfl rfl rfl rfl (by simp only [fieldAddrE, fieldOf, ti94, ti5, ti3, ti71, ti258, ti256, ti244]; rfl) rfl ?_
          | refine Wk.load rfl rfl rfl rfl (by simp only [loadE, ti94, ti5, ti3, ti71, ti258, ti256, ti244]; rfl) rfl ?_
          | refine Wk.builtin rfl rfl rfl (by simp only [builtinE, ti94, ti5, ti3, ti71, ti258, ti256, ti244]; rfl) rfl ?_
          | refine Wk.bin rfl rfl rfl rfl rfl rfl rfl rfl ?_
          | refine Wk.un rfl rfl rfl rfl rfl rfl ?_
          | refine Wk.pickT rfl rfl rfl rfl rfl rfl rfl ?_
          | refine Wk.pickF rfl rfl rfl rfl rfl rfl rfl ?_
          | refine Wk.skip rfl rfl rfl rfl ?_
          | refine Wk.nilCheck rfl rfl rfl rfl rfl ?_
          | refine Wk.makeFunc rfl rfl rfl rfl rfl ?_
          | refine Wk.conv rfl rfl rfl rfl (by simp only [convE, ti3, ti94, ti5]; rfl) rfl ?_
          | (refine Wk.done ?_; try dsimp only [sget])
          | refine Wc.ret ?_)
      simp only [hd2]
      repeat (first
          | refine Wk.bin rfl rfl rfl rfl rfl rfl (and32_1 hcl) rfl ?_
          | refine Wk.bin rfl rfl rfl rfl rfl rfl (shr32_1 c) rfl ?_
          | refine Wk.bin rfl rfl rfl rfl rfl rfl (xor32 hlt2 (by omega)) rfl ?_
          | refine Wc.seq ?_
          | refine Wc.region (by kernel_rfl) ?_
          | refine Wc.condT rfl rfl ?_
          | refine Wc.condF rfl rfl ?_
          | refine Wc.skip ?_
          | refine Wc.block ?_
          | refine Wc.exit ?_
          | refine Wk.move rfl rfl rfl rfl rfl ?_
          | refine Wk.assign rfl rfl rfl rfl rfl ?_
          | refine Wk.fieldAddr rfl rfl rfl rfl (by simp only [fieldAddrE, fieldOf, ti94, ti5, ti3, ti71, ti258, ti256, ti244]; rfl) rfl ?_
          | refine Wk.load rfl rfl rfl rfl (by simp only [loadE, ti94, ti5, ti3, ti71, ti258, ti256, ti244]; rfl) rfl ?_
          | refine Wk.builtin rfl rfl rfl (by simp only [builtinE, ti94, ti5, ti3, ti71, ti258, ti256, ti244]; rfl) rfl ?_
          | refine Wk.bin rfl rfl rfl rfl rfl rfl rfl rfl ?_
          | refine Wk.un rfl rfl rfl rfl rfl rfl ?_
          | refine Wk.pickT rfl rfl rfl rfl rfl rfl rfl ?_
          | refine Wk.pickF rfl rfl rfl rfl rfl rfl rfl ?_
          | refine Wk.skip rfl rfl rfl rfl ?_
          | refine Wk.nilCheck rfl rfl rfl rfl rfl ?_
          | refine Wk.makeFunc rfl rfl rfl rfl rfl ?_
          | refine Wk.conv rfl rfl rfl rfl (by simp only [convE, ti3, ti94, ti5]; rfl) rfl ?_
          | (refine Wk.done ?_; try dsimp only [sget])
          | refine Wc.ret ?_)
      by_cases hb : c % 2 = 1
      · have hd3 : (((c % 2 : Nat) : Int) == 1) = true := by simp; omega
        have hlt2 : c / 2 < 4294967296 := by omega
        simp only [hd3]
        repeat (first
            | refine Wk.bin rfl rfl rfl rfl rfl rfl (and32_1 hcl) rfl ?_
            | refine Wk.bin rfl rfl rfl rfl rfl rfl (shr32_1 c) rfl ?_
            | refine Wk.bin rfl rfl rfl rfl rfl rfl (xor32 hlt2 (by omega)) rfl ?_
            | refine Wc.seq ?_
            | refine Wc.region (by kernel_rfl) ?_
            | refine Wc.condT rfl rfl ?_
            | refine Wc.condF rfl rfl ?_
            | refine Wc.skip ?_
            | refine Wc.block ?_
            | refine Wc.exit ?_
            | refine Wk.move rfl rfl rfl rfl rfl ?_
            | refine Wk.assign rfl rfl rfl rfl rfl ?_
            | refine Wk.fieldAddr rfl rfl rfl rfl (by simp only [fieldAddrE, fieldOf, ti94, ti5, ti3, ti71, ti258, ti256, ti244]; rfl) rfl ?_
            | refine Wk.load rfl rfl rfl rfl (by simp only [loadE, ti94, ti5, ti3, ti71, ti258, ti256, ti244]; rfl) rfl ?_
            | refine Wk.builtin rfl rfl rfl (by simp only [builtinE, ti94, ti5, ti3, ti71, ti258, ti256, ti244]; rfl) rfl ?_
            | refine Wk.bin rfl rfl rfl rfl rfl rfl rfl rfl ?_
            | refine Wk.un rfl rfl rfl rfl rfl rfl ?_
            | refine Wk.pickT rfl rfl rfl rfl rfl rfl rfl ?_
            | refine Wk.pickF rfl rfl rfl rfl rfl rfl rfl ?_
            | refine Wk.skip rfl rfl rfl rfl ?_
            | refine Wk.nilCheck rfl rfl rfl rfl rfl ?_
            | refine Wk.makeFunc rfl rfl rfl rfl rfl ?_
            | refine Wk.conv rfl rfl rfl rfl (by simp only [convE, ti3, ti94, ti5]; rfl) rfl ?_
            | (refine Wk.done ?_; try dsimp only [sget])
            | refine Wc.ret ?_)
        refine ⟨8 - (j + 1), by omega, j + 1, by omega, rfl, rfl, rfl, rfl, ?_, ?_, rfl⟩
        · exact congrArg _ hw
        · rw [iterBit_succ, hcc, crcBit_eq, if_pos hb]
          exact Option.some.inj (xor32 (b := 3988292384) hlt2 (by omega))
      · have hd3 : (((c % 2 : Nat) : Int) == 1) = false := by simp; omega
        simp only [hd3]
        repeat (first
            | refine Wk.bin rfl rfl rfl rfl rfl rfl (and32_1 hcl) rfl ?_
            | refine Wk.bin rfl rfl rfl rfl rfl rfl (shr32_1 c) rfl ?_
            | refine Wk.bin rfl rfl rfl rfl rfl rfl (xor32 hlt2 (by omega)) rfl ?_
            | refine Wc.seq ?_
            | refine Wc.region (by kernel_rfl) ?_
            | refine Wc.condT rfl rfl ?_
            | refine Wc.condF rfl rfl ?_
            | refine Wc.skip ?_
            | refine Wc.block ?_
            | refine Wc.exit ?_
            | refine Wk.move rfl rfl rfl rfl rfl ?_
            | refine Wk.assign rfl rfl rfl rfl rfl ?_
            | refine Wk.fieldAddr rfl rfl rfl rfl (by simp only [fieldAddrE, fieldOf, ti94, ti5, ti3, ti71, ti258, ti256, ti244]; rfl) rfl ?_
            | refine Wk.load rfl rfl rfl rfl (by simp only [loadE, ti94, ti5, ti3, ti71, ti258, ti256, ti244]; rfl) rfl ?_
            | refine Wk.builtin rfl rfl rfl (by simp only [builtinE, ti94, ti5, ti3, ti71, ti258, ti256, ti244]; rfl) rfl ?_
            | refine Wk.bin rfl rfl rfl rfl rfl rfl rfl rfl ?_
            | refine Wk.un rfl rfl rfl rfl rfl rfl ?_
            | refine Wk.pickT rfl rfl rfl rfl rfl rfl rfl ?_
            | refine Wk.pickF rfl rfl rfl rfl rfl rfl rfl ?_
            | refine Wk.skip rfl rfl rfl rfl ?_
            | refine Wk.nilCheck rfl rfl rfl rfl rfl ?_
            | refine Wk.makeFunc rfl rfl rfl rfl rfl ?_
            | refine Wk.conv rfl rfl rfl rfl (by simp only [convE, ti3, ti94, ti5]; rfl) rfl ?_
            | (refine Wk.done ?_; try dsimp only [sget])
            | refine Wc.ret ?_)
        refine ⟨8 - (j + 1), by omega, j + 1, by omega, rfl, rfl, rfl, rfl, ?_, ?_, rfl⟩
        · exact congrArg _ hw
        · show EV.int .u32 _ = _
          rw [iterBit_succ, hcc, crcBit_eq, if_neg hb]
    · have hj8 : j = 8 := by omega
      subst hj8
      have hd2 : decide (((8 : Nat) : Int) < 8) = false := rfl
      repeat (first
          | refine Wc.seq ?_
          | refine Wc.region (by kernel_rfl) ?_
          | refine Wc.condT rfl rfl ?_
          | refine Wc.condF rfl rfl ?_
          | refine Wc.skip ?_
          | refine Wc.block ?_
          | refine Wc.exit ?_
          | refine Wk.move rfl rfl rfl rfl rfl ?_
          | refine Wk.assign rfl rfl rfl rfl rfl ?_
          | refine Wk.fieldAddr rfl rfl rfl rfl (by simp only [fieldAddrE, fieldOf, ti94, ti5, ti3, ti71, ti258, ti256, ti244]; rfl) rfl ?_
          | refine Wk.load rfl rfl rfl rfl (by simp only [loadE, ti94, ti5, ti3, ti71, ti258, ti256, ti244]; rfl) rfl ?_
          | refine Wk.builtin rfl rfl rfl (by simp only [builtinE, ti94, ti5, ti3, ti71, ti258, ti256, ti244]; rfl) rfl ?_
          | refine Wk.bin rfl rfl rfl rfl rfl rfl rfl rfl ?_
          | refine Wk.un rfl rfl rfl rfl rfl rfl ?_
          | refine Wk.pickT rfl rfl rfl rfl rfl rfl rfl ?_
          | refine Wk.pickF rfl rfl rfl rfl rfl rfl rfl ?_
          | refine Wk.skip rfl rfl rfl rfl ?_
          | refine Wk.nilCheck rfl rfl rfl rfl rfl ?_
          | refine Wk.makeFunc rfl rfl rfl rfl rfl ?_
          | refine Wk.conv rfl rfl rfl rfl (by simp only [convE, ti3, ti94, ti5]; rfl) rfl ?_
          | (refine Wk.done ?_; try dsimp only [sget])
          | refine Wc.ret ?_)
      simp only [hd2]
      repeat (first
          | refine Wc.seq ?_
          | refine Wc.region (by kernel_rfl) ?_
          | refine Wc.condT rfl rfl ?_
          | refine Wc.condF rfl rfl ?_
          | refine Wc.skip ?_
          | refine Wc.block ?_
          | refine Wc.exit ?_
          | refine Wk.move rfl rfl rfl rfl rfl ?_
          | refine Wk.assign rfl rfl rfl rfl rfl ?_
          | refine Wk.fieldAddr rfl rfl rfl rfl (by simp only [fieldAddrE, fieldOf, ti94, ti5, ti3, ti71, ti258, ti256, ti244]; rfl) rfl ?_
          | refine Wk.load rfl rfl rfl rfl (by simp only [loadE, ti94, ti5, ti3, ti71, ti258, ti256, ti244]; rfl) rfl ?_
          | refine Wk.builtin rfl rfl rfl (by simp only [builtinE, ti94, ti5, ti3, ti71, ti258, ti256, ti244]; rfl) rfl ?_
          | refine Wk.bin rfl rfl rfl rfl rfl rfl rfl rfl ?_
          | refine Wk.un rfl rfl rfl rfl rfl rfl ?_
          | refine Wk.pickT rfl rfl rfl rfl rfl rfl rfl ?_
          | refine Wk.pickF rfl rfl rfl rfl rfl rfl rfl ?_
          | refine Wk.skip rfl rfl rfl rfl ?_
          | refine Wk.nilCheck rfl rfl rfl rfl rfl ?_
          | refine Wk.makeFunc rfl rfl rfl rfl rfl ?_
          | refine Wk.conv rfl rfl rfl rfl (by simp only [convE, ti3, ti94, ti5]; rfl) rfl ?_
          | (refine Wk.done ?_; try dsimp only [sget])
          | refine Wc.ret ?_)
      have hw : IntKind.i64.wrap ((i : Int) + 1) = ((i + 1 : Nat) : Int) := by rw [IntKind.wrap_i64]; omega
      have hix : indexAddrE C 256 (.ptr b g (0 + 3)) (.int .i64 (i : Int)) = some (.ptr b g (3 + i)) := by
        simp only [indexAddrE, ti256, ti94, asIndex]
        rw [if_pos ⟨by omega, by omega⟩]
        simp [addE]
      have hcl : (crcTab.take i ++ Z.drop i).length = 256 := by simp [crcTab_length, hZ]; omega
      have hst : storeE C 94 (.ptr b g (3 + i)) (.int .u32 (iterBit 8 i : Nat)) { h := s.h.set b { k with cells := [x0, x1, x2] ++ (crcTab.take i ++ Z.drop i) }, keep := s.keep } = some { h := s.h.set b { k with cells := [x0, x1, x2] ++ (crcTab.take (i + 1) ++ Z.drop (i + 1)) }, keep := s.keep } := by
        have hw0 := writeE_ok (s := { h := s.h.set b { k with cells := [x0, x1, x2] ++ (crcTab.take i ++ Z.drop i) }, keep := s.keep }) (b := b) (g := g) (off := 3 + i) (cs := [.int .u32 (iterBit 8 i : Nat)]) (k := { k with cells := [x0, x1, x2] ++ (crcTab.take i ++ Z.drop i) }) (by simp [hbl]) hg hf (by simp [crcTab_length, hZ]; omega) rfl (by simp [refsL, EV.refs])
        have hr : C.refTy 94 = false := by kernel_rfl
        simp only [storeE, ti94, hr, Bool.false_eq_true, if_false, freezeV, EV.cells, List.length_singleton, if_true]
        rw [hw0]
        have hl : lsetN ([x0, x1, x2] ++ (crcTab.take i ++ Z.drop i)) (3 + i) [.int .u32 (iterBit 8 i : Nat)] = [x0, x1, x2] ++ (crcTab.take (i + 1) ++ Z.drop (i + 1)) := by
          rw [lsetN_eq _ _ _ (by simp [crcTab_length, hZ]; omega)]
          have e1 : ([x0, x1, x2] ++ (crcTab.take i ++ Z.drop i)).take (3 + i) = [x0, x1, x2] ++ crcTab.take i := by
            rw [← List.append_assoc, List.take_append_of_le_length (by simp [crcTab_length]; omega), List.take_of_length_le (by simp [crcTab_length]; omega)]
          have e2 : ([x0, x1, x2] ++ (crcTab.take i ++ Z.drop i)).drop (3 + i + [EV.int .u32 (iterBit 8 i : Nat)].length) = Z.drop (i + 1) := by
            rw [← List.append_assoc, List.drop_append, List.drop_eq_nil_of_le (by simp [crcTab_length]; omega), List.drop_drop, List.nil_append]
            congr 1
            simp [crcTab_length]; omega
          have e3 : crcTab.take (i + 1) = crcTab.take i ++ [.int .u32 (iterBit 8 i : Nat)] := by
            rw [List.take_add_one, crcTab_get hlt, crcByte_eq]; rfl
          rw [e1, e2, e3]
          simp
        rw [hl]
        simp
      refine Wk.indexAddr rfl rfl rfl rfl rfl rfl hix rfl ?_
      refine Wk.store rfl rfl rfl rfl rfl rfl hst ?_
      repeat (first
          | refine Wc.seq ?_
          | refine Wc.region (by kernel_rfl) ?_
          | refine Wc.condT rfl rfl ?_
          | refine Wc.condF rfl rfl ?_
          | refine Wc.skip ?_
          | refine Wc.block ?_
          | refine Wc.exit ?_
          | refine Wk.move rfl rfl rfl rfl rfl ?_
          | refine Wk.assign rfl rfl rfl rfl rfl ?_
          | refine Wk.fieldAddr rfl rfl rfl rfl (by simp only [fieldAddrE, fieldOf, ti94, ti5, ti3, ti71, ti258, ti256, ti244]; rfl) rfl ?_
          | refine Wk.load rfl rfl rfl rfl (by simp only [loadE, ti94, ti5, ti3, ti71, ti258, ti256, ti244]; rfl) rfl ?_
          | refine Wk.builtin rfl rfl rfl (by simp only [builtinE, ti94, ti5, ti3, ti71, ti258, ti256, ti244]; rfl) rfl ?_
          | refine Wk.bin rfl rfl rfl rfl rfl rfl rfl rfl ?_
          | refine Wk.un rfl rfl rfl rfl rfl rfl ?_
          | refine Wk.pickT rfl rfl rfl rfl rfl rfl rfl ?_
          | refine Wk.pickF rfl rfl rfl rfl rfl rfl rfl ?_
          | refine Wk.skip rfl rfl rfl rfl ?_
          | refine Wk.nilCheck rfl rfl rfl rfl rfl ?_
          | refine Wk.makeFunc rfl rfl rfl rfl rfl ?_
          | refine Wk.conv rfl rfl rfl rfl (by simp only [convE, ti3, ti94, ti5]; rfl) rfl ?_
          | (refine Wk.done ?_; try dsimp only [sget])
          | refine Wc.ret ?_)
      exact ⟨256 - (i + 1), by omega, i + 1, by omega, rfl, rfl, congrArg _ hw, rfl⟩
  · have hi6 : i = 256 := by omega
    subst hi6
    have hd : decide (((256 : Nat) : Int) < 256) = false := rfl
    repeat (first
        | refine Wc.seq ?_
        | refine Wc.region (by kernel_rfl) ?_
        | refine Wc.condT rfl rfl ?_
        | refine Wc.condF rfl rfl ?_
        | refine Wc.skip ?_
        | refine Wc.block ?_
        | refine Wc.exit ?_
        | refine Wk.move rfl rfl rfl rfl rfl ?_
        | refine Wk.assign rfl rfl rfl rfl rfl ?_
        | refine Wk.fieldAddr rfl rfl rfl rfl (by simp only [fieldAddrE, fieldOf, ti94, ti5, ti3, ti71, ti258, ti256, ti244]; rfl) rfl ?_
        | refine Wk.load rfl rfl rfl rfl (by simp only [loadE, ti94, ti5, ti3, ti71, ti258, ti256, ti244]; rfl) rfl ?_
        | refine Wk.builtin rfl rfl rfl (by simp only [builtinE, ti94, ti5, ti3, ti71, ti258, ti256, ti244]; rfl) rfl ?_
        | refine Wk.bin rfl rfl rfl rfl rfl rfl rfl rfl ?_
        | refine Wk.un rfl rfl rfl rfl rfl rfl ?_
        | refine Wk.pickT rfl rfl rfl rfl rfl rfl rfl ?_
        | refine Wk.pickF rfl rfl rfl rfl rfl rfl rfl ?_
        | refine Wk.skip rfl rfl rfl rfl ?_
        | refine Wk.nilCheck rfl rfl rfl rfl rfl ?_
        | refine Wk.makeFunc rfl rfl rfl rfl rfl ?_
        | refine Wk.conv rfl rfl rfl rfl (by simp only [convE, ti3, ti94, ti5]; rfl) rfl ?_
        | (refine Wk.done ?_; try dsimp only [sget])
        | refine Wc.ret ?_)
    simp only [hd]
    repeat (first
        | refine Wc.seq ?_
        | refine Wc.region (by kernel_rfl) ?_
        | refine Wc.condT rfl rfl ?_
        | refine Wc.condF rfl rfl ?_
        | refine Wc.skip ?_
        | refine Wc.block ?_
        | refine Wc.exit ?_
        | refine Wk.move rfl rfl rfl rfl rfl ?_
        | refine Wk.assign rfl rfl rfl rfl rfl ?_
        | refine Wk.fieldAddr rfl rfl rfl rfl (by simp only [fieldAddrE, fieldOf, ti94, ti5, ti3, ti71, ti258, ti256, ti244]; rfl) rfl ?_
        | refine Wk.load rfl rfl rfl rfl (by simp only [loadE, ti94, ti5, ti3, ti71, ti258, ti256, ti244]; rfl) rfl ?_
        | refine Wk.builtin rfl rfl rfl (by simp only [builtinE, ti94, ti5, ti3, ti71, ti258, ti256, ti244]; rfl) rfl ?_
        | refine Wk.bin rfl rfl rfl rfl rfl rfl rfl rfl ?_
        | refine Wk.un rfl rfl rfl rfl rfl rfl ?_
        | refine Wk.pickT rfl rfl rfl rfl rfl rfl rfl ?_
        | refine Wk.pickF rfl rfl rfl rfl rfl rfl rfl ?_
        | refine Wk.skip rfl rfl rfl rfl ?_
        | refine Wk.nilCheck rfl rfl rfl rfl rfl ?_
        | refine Wk.makeFunc rfl rfl rfl rfl rfl ?_
        | refine Wk.conv rfl rfl rfl rfl (by simp only [convE, ti3, ti94, ti5]; rfl) rfl ?_
        | (refine Wk.done ?_; try dsimp only [sget])
        | refine Wc.ret ?_)
    refine ⟨(fun _ h => by cases h), ?_⟩
    rw [List.take_of_length_le (by rw [crcTab_length]; exact Nat.le_refl _), List.drop_eq_nil_of_le (by omega), List.append_nil]
    exact set_take

/-- A table, that is made or not. -/
def tabBlk (g : Nat) (made : Bool) : Blk := { gen := g, arr := false, frz := false, cells := match made with
  | true => [.int .u32 1, .int .i32 0, .int .u32 0] ++ crcTab
  | false => [.int .u32 0, .int .i32 0, .int .u32 0] ++ List.replicate 256 (.int .u32 0) }

/-- 'Do' is answered by onceE. -/
def PrimOnce (prim : CallE → Nat → FuncId → List EV → St → Option (EV × St)) : Prop := ∃ cb : FuncId → Bool, cb 222 = true ∧ ∀ call args s, prim call 1 221 args s = onceE cb call args s

theorem readAt_tab {s : St} {b g : Nat} {k : Blk} (hk : s.h[b]? = some k) (hg : k.gen = g) {x y : EV} {r : List EV} (hc : k.cells = x :: y :: r) : readAt s (.ptr b g 0) 2 = some [x, y] := by
  unfold readAt St.blk
  simp only [lget_eq, hk, hg, beq_self_eq_true, if_true, hc]
  rw [if_pos (by simp)]
  rfl

theorem ev_once {s : St} {b g : Nat} (made : Bool) (hp : PrimOnce prim) (hk : s.h[b]? = some (tabBlk g made)) :
    Ev C prim 221 [.ptr b g 0, .fn (.func 222) [.ptr b g 0] []] s (.tup []) { h := s.h.set b (tabBlk g true), keep := s.keep } := by
  have hbl : b < s.h.length := (List.getElem?_eq_some_iff.1 hk).1
  obtain ⟨cb, hcb, hp⟩ := hp
  refine Ev.ofPrim (k := 1) (by kernel_rfl) ?_
  cases made with
  | true =>
    refine ⟨0, fun n _ => ?_⟩
    rw [hp]
    unfold onceE
    simp only []
    rw [readAt_tab (g := g) hk rfl (x := .int .u32 1) (y := .int .i32 0) rfl]
    simp only []
    rw [if_neg (by omega)]
    have : s.h.set b (tabBlk g true) = s.h := by
      refine List.ext_getElem? fun j => ?_
      rw [List.getElem?_set]
      split
      · rename_i e; subst e; first | exact hk.symm | simp [hbl, hk]
      · rfl
    rw [this]
  | false =>
    -- the lock
    have hw1 := writeE_ok (s := s) (b := b) (g := g) (off := 0 + 1) (cs := [.int .i32 1]) hk rfl rfl (by simp [tabBlk]) rfl (by simp [refsL, EV.refs])
    generalize hs1 : ({ h := s.h.set b { (tabBlk g false) with cells := lsetN (tabBlk g false).cells (0 + 1) [.int .i32 1] }, keep := s.keep } : St) = s1 at hw1
    have hk1 : s1.h[b]? = some { gen := g, arr := false, frz := false, cells := [.int .u32 0, .int .i32 1, .int .u32 0] ++ List.replicate 256 (.int .u32 0) } := by rw [← hs1]; simp [hbl, tabBlk, lsetN, lset]
    obtain ⟨N, hm⟩ := ev_make (prim := prim) (s := s1) (b := b) (g := g) (.int .u32 0) (.int .i32 1) (.int .u32 0) (List.replicate 256 (.int .u32 0)) hk1 rfl rfl rfl (by simp)
    generalize hs2 : ({ h := s1.h.set b { gen := g, arr := false, frz := false, cells := [.int .u32 0, .int .i32 1, .int .u32 0] ++ crcTab }, keep := s1.keep } : St) = s2 at hm
    have hl1 : s1.h.length = s.h.length := by rw [← hs1]; simp
    have hk2 : s2.h[b]? = some { gen := g, arr := false, frz := false, cells := [.int .u32 0, .int .i32 1, .int .u32 0] ++ crcTab } := by rw [← hs2]; simp [hl1, hbl]
    have hw3 := writeE_ok (s := s2) (b := b) (g := g) (off := 0) (cs := [.int .u32 1]) hk2 rfl rfl (by simp) rfl (by simp [refsL, EV.refs])
    generalize hs3 : ({ h := s2.h.set b { gen := g, arr := false, frz := false, cells := lsetN ([.int .u32 0, .int .i32 1, .int .u32 0] ++ crcTab) 0 [.int .u32 1] }, keep := s2.keep } : St) = s3 at hw3
    have hl2 : s2.h.length = s.h.length := by rw [← hs2]; simp [hl1]
    have hk3 : s3.h[b]? = some { gen := g, arr := false, frz := false, cells := [.int .u32 1, .int .i32 1, .int .u32 0] ++ crcTab } := by rw [← hs3]; simp [hl2, hbl, lsetN, lset]
    have hw4 := writeE_ok (s := s3) (b := b) (g := g) (off := 0 + 1) (cs := [.int .i32 0]) hk3 rfl rfl (by simp) rfl (by simp [refsL, EV.refs])
    refine ⟨N, fun n hn => ?_⟩
    rw [hp]
    unfold onceE
    simp only []
    rw [readAt_tab (g := g) hk rfl (x := .int .u32 0) (y := .int .i32 0) rfl]
    simp only [if_true]
    rw [if_pos ⟨trivial, hcb⟩, hw1]
    simp only [List.append_nil]
    rw [hm n hn]
    simp only []
    rw [readAt_tab (g := g) hk2 rfl (x := .int .u32 0) (y := .int .i32 1) rfl]
    simp only [if_true]
    rw [hw3]
    simp only []
    rw [hw4]
    simp only [Option.some.injEq, Prod.mk.injEq, true_and]
    rw [← hs3, ← hs2, ← hs1]
    simp [tabBlk, lsetN, lset]

set_option maxHeartbeats 4000000 in
theorem ev_of {s : St} {b g : Nat} (made : Bool) (hp : PrimOnce prim) (hk : s.h[b]? = some (tabBlk g made)) {i : Nat} (hi : i < 256) :
    Ev C prim 207 [.ptr b g 0, .int .u8 (i : Int)] s (.int .u32 (crcByte i : Nat)) { h := s.h.set b (tabBlk g true), keep := s.keep } := by
  have hbl : b < s.h.length := (List.getElem?_eq_some_iff.1 hk).1
  have ho := ev_once made hp hk
  refine Ev.full1 (by kernel_rfl) fn207 rfl ?_ (by kernel_rfl) ?_
  · have : Nat.beq (refsL [EV.ptr b g 0, .int .u8 (i : Int)]) 0 = false := by simp [refsL, EV.refs]; rfl
    rw [this, Bool.and_false]
  change Wc _ _ _ _ 17 _ _ _ _
  have hix : indexAddrE C 256 (.ptr b g (0 + 3)) (.int .u8 (i : Int)) = some (.ptr b g (3 + i)) := by
    simp only [indexAddrE, ti256, ti94, asIndex]
    rw [if_pos ⟨by omega, by omega⟩]
    simp [addE]
  have hld : loadE C 94 (.ptr b g (3 + i)) { h := s.h.set b (tabBlk g true), keep := s.keep } = some (.int .u32 (crcByte i : Nat)) := by
    simp only [loadE, ti94, isAggD, Bool.false_eq_true, if_false, readAt, St.blk, lget_eq]
    have : (s.h.set b (tabBlk g true))[b]? = some (tabBlk g true) := by simp [hbl]
    rw [this]
    simp only [tabBlk, beq_self_eq_true, if_true]
    rw [if_pos (by simp [crcTab_length]; omega)]
    have : (([EV.int .u32 1, .int .i32 0, .int .u32 0] ++ crcTab).drop (3 + i)).take 1 = [.int .u32 (crcByte i : Nat)] := by
      rw [List.drop_append, List.drop_eq_nil_of_le (by simp), List.nil_append]
      have e1 : 3 + i - [EV.int .u32 1, .int .i32 0, .int .u32 0].length = i := by simp
      rw [e1]
      obtain ⟨hl, he⟩ := List.getElem?_eq_some_iff.1 (crcTab_get hi)
      rw [List.drop_eq_getElem_cons hl, he]; rfl
    rw [this]
  repeat (first
      | refine Wk.indexAddr rfl rfl rfl rfl rfl rfl hix rfl ?_
      | refine Wk.load rfl rfl rfl rfl hld rfl ?_
      | refine Wk.call rfl rfl rfl rfl rfl (by kernel_rfl) rfl ho rfl ?_
      | refine Wc.seq ?_
      | refine Wc.region (by kernel_rfl) ?_
      | refine Wc.condT rfl rfl ?_
      | refine Wc.condF rfl rfl ?_
      | refine Wc.skip ?_
      | refine Wc.block ?_
      | refine Wc.exit ?_
      | refine Wk.move rfl rfl rfl rfl rfl ?_
      | refine Wk.assign rfl rfl rfl rfl rfl ?_
      | refine Wk.fieldAddr rfl rfl rfl rfl (by simp only [fieldAddrE, fieldOf, ti94, ti5, ti3, ti71, ti258, ti256, ti244]; rfl) rfl ?_
      | refine Wk.load rfl rfl rfl rfl (by simp only [loadE, ti94, ti5, ti3, ti71, ti258, ti256, ti244]; rfl) rfl ?_
      | refine Wk.builtin rfl rfl rfl (by simp only [builtinE, ti94, ti5, ti3, ti71, ti258, ti256, ti244]; rfl) rfl ?_
      | refine Wk.bin rfl rfl rfl rfl rfl rfl rfl rfl ?_
      | refine Wk.un rfl rfl rfl rfl rfl rfl ?_
      | refine Wk.pickT rfl rfl rfl rfl rfl rfl rfl ?_
      | refine Wk.pickF rfl rfl rfl rfl rfl rfl rfl ?_
      | refine Wk.skip rfl rfl rfl rfl ?_
      | refine Wk.nilCheck rfl rfl rfl rfl rfl ?_
      | refine Wk.makeFunc rfl rfl rfl rfl rfl ?_
      | refine Wk.conv rfl rfl rfl rfl (by simp only [convE, ti3, ti94, ti5]; rfl) rfl ?_
      | (refine Wk.done ?_; try dsimp only [sget])
      | refine Wc.ret ?_)
  exact ⟨(fun _ h => by cases h), _, _, rfl, rfl, set_take⟩

theorem len_app {s : St} {x : EV} {rows : List (List EV)} (h : rowsOf s x = some rows) (s' : St) : builtinE C .len [71] [x] s' = some (.int .i64 (rows.length : Nat), s') := by
  have ht : ([71] : List TypeId)[0]?.bind C.ti = some ({ desc := TypeDesc.slice 5, size := 1, bytes := 24, zero := some (.slice none 0 0), eqKs := none } : TI) := ti71
  unfold builtinE
  simp only [ht]
  cases x <;> simp only [rowsOf] at h <;> try (cases h; done)
  · cases h; rfl
  · cases h; rfl
  · cases h; rfl
  · split at h
    · split at h
      · cases h; simp [lenE, chunk_length]
      · cases h
    · cases h

theorem rows_app {s : St} {x : EV} {rows : List (List EV)} (h : rowsOf s x = some rows) (t : Blk) (kp : Nat) : rowsOf { h := s.h ++ [t], keep := kp } x = some rows := by
  cases x <;> simp only [rowsOf] at h ⊢ <;> try exact h
  rename_i b g off n sz
  split at h
  · rename_i kb hkb
    obtain ⟨h1, h2⟩ := blk_some hkb
    have : St.blk { h := s.h ++ [t], keep := kp } b g = some kb := by
      unfold St.blk
      rw [lget_eq, List.getElem?_append_left (List.getElem?_eq_some_iff.1 h1).1, h1]
      simp [h2]
    rw [this]
    exact h
  · cases h

theorem ev_of' {s : St} (made : Bool) (hp : PrimOnce prim) {i : Nat} (hi : i < 256) :
    Ev C prim 207 [.ptr s.h.length 0 0, .int .u8 (i : Int)] { h := s.h ++ [tabBlk 0 made], keep := s.keep } (.int .u32 (crcByte i : Nat)) { h := s.h ++ [tabBlk 0 true], keep := s.keep } := by
  have := ev_of (s := { h := s.h ++ [tabBlk 0 made], keep := s.keep }) (b := s.h.length) (g := 0) made hp (by simp) hi
  simpa using this

set_option maxHeartbeats 4000000 in
theorem ev_more {s : St} (hp : PrimOnce prim) {x : EV} {rows : List (List EV)} {bs : List Nat} (hx : x.szIs 1 = true) (hr : rowsOf s x = some rows) (hb : bytes8 rows = some bs) (hkeep : s.keep ≤ s.h.length) (h44 : bs.length ≤ 17592186044416) {c : Nat} (hc : c < 4294967296) :
    Ev C prim 196 [.int .u32 (c : Int), x] s (.int .u32 (crcMore c bs : Nat)) s := by
  obtain ⟨hbl, hbg⟩ := bytes8_get hb
  refine Ev.full1 (by kernel_rfl) fn196 rfl ?_ (by kernel_rfl) ?_
  · have : C.pure 196 = false := by kernel_rfl
    rw [this, Bool.false_and]
  change Wc _ _ _ _ 27 _ _ _ _
  have hbd : buildE C 258 [] = some (.agg (tabBlk 0 false).cells) := by kernel_rfl
  repeat (first
      | refine Wk.build rfl rfl hbd rfl ?_
      | refine Wk.box rfl rfl ti258 rfl rfl rfl rfl rfl ?_
      | refine Wk.builtin rfl rfl rfl (len_app hr _) rfl ?_
      | refine Wc.seq ?_
      | refine Wc.region (by kernel_rfl) ?_
      | refine Wc.condT rfl rfl ?_
      | refine Wc.condF rfl rfl ?_
      | refine Wc.skip ?_
      | refine Wc.block ?_
      | refine Wc.exit ?_
      | refine Wk.move rfl rfl rfl rfl rfl ?_
      | refine Wk.assign rfl rfl rfl rfl rfl ?_
      | refine Wk.fieldAddr rfl rfl rfl rfl (by simp only [fieldAddrE, fieldOf, ti94, ti5, ti3, ti71, ti258, ti256, ti244]; rfl) rfl ?_
      | refine Wk.load rfl rfl rfl rfl (by simp only [loadE, ti94, ti5, ti3, ti71, ti258, ti256, ti244]; rfl) rfl ?_
      | refine Wk.builtin rfl rfl rfl (by simp only [builtinE, ti94, ti5, ti3, ti71, ti258, ti256, ti244]; rfl) rfl ?_
      | refine Wk.bin rfl rfl rfl rfl rfl rfl rfl rfl ?_
      | refine Wk.un rfl rfl rfl rfl rfl rfl ?_
      | refine Wk.pickT rfl rfl rfl rfl rfl rfl rfl ?_
      | refine Wk.pickF rfl rfl rfl rfl rfl rfl rfl ?_
      | refine Wk.skip rfl rfl rfl rfl ?_
      | refine Wk.nilCheck rfl rfl rfl rfl rfl ?_
      | refine Wk.makeFunc rfl rfl rfl rfl rfl ?_
      | refine Wk.conv rfl rfl rfl rfl (by simp only [convE, ti3, ti94, ti5]; rfl) rfl ?_
      | (refine Wk.done ?_; try dsimp only [sget])
      | refine Wc.ret ?_)
  refine Wc.loopC (fun m gg st => ∃ (k ck : Nat) (made : Bool), k ≤ bs.length ∧ m = bs.length - k ∧ ck < 4294967296 ∧ crcMore c bs = crcMore ck (bs.drop k) ∧ gg 0 = .int .u32 (ck : Int) ∧ gg 5 = .ptr s.h.length 0 0 ∧ gg 10 = x ∧ gg 11 = .int .i64 (rows.length : Nat) ∧ gg 12 = .int .i64 (k : Int) ∧ st = { h := s.h ++ [tabBlk 0 made], keep := s.keep }) bs.length ⟨0, c, false, by omega, rfl, hc, rfl, rfl, rfl, rfl, rfl, rfl, rfl⟩ ?_
  rintro m gg st ⟨k, ck, made, hk, rfl, hck, hcr, h0, h5, h10, h11, h12, rfl⟩
  simp only [canonL, h0, h5, h10, h11, h12, Nat.reduceAdd]
  by_cases hlt : k < bs.length
  · have hd : decide ((k : Int) < (rows.length : Nat)) = true := by simp; omega
    obtain ⟨b, hbk⟩ : ∃ b, bs[k]? = some b := ⟨_, List.getElem?_eq_getElem hlt⟩
    obtain ⟨hb256, hrow⟩ := hbg k b hbk
    obtain ⟨a, hix, hld⟩ := row_at (C := C) (s := { h := s.h ++ [tabBlk 0 made], keep := s.keep }) (t5 := 5) hx (rows_app hr _ _) hrow ti71 rfl ti5 rfl ti5 rfl
    have hcv : ∀ st, convE C (C.mutated 196 5 2) 94 5 (.int .u32 (ck : Int)) st = some (.int .u8 ((ck % 256 : Nat) : Int), st) := fun st => by
      simp only [convE, ti94, ti5]
      rw [wrap_u8]; congr 3
    have hm8 : ck % 256 < 256 := Nat.mod_lt _ (by omega)
    have hx8 : (ck % 256) ^^^ b < 256 := Nat.xor_lt_two_pow (n := 8) hm8 hb256
    have ho := ev_of' (s := s) made hp hx8
    have hby : crcByte ((ck % 256) ^^^ b) < 4294967296 := crcByte_lt (by omega)
    have hw : IntKind.i64.wrap ((k : Int) + 1) = ((k + 1 : Nat) : Int) := by rw [IntKind.wrap_i64]; omega
    repeat (first
        | refine Wc.seq ?_
        | refine Wc.region (by kernel_rfl) ?_
        | refine Wc.condT rfl rfl ?_
        | refine Wc.condF rfl rfl ?_
        | refine Wc.skip ?_
        | refine Wc.block ?_
        | refine Wc.exit ?_
        | refine Wk.move rfl rfl rfl rfl rfl ?_
        | refine Wk.assign rfl rfl rfl rfl rfl ?_
        | refine Wk.fieldAddr rfl rfl rfl rfl (by simp only [fieldAddrE, fieldOf, ti94, ti5, ti3, ti71, ti258, ti256, ti244]; rfl) rfl ?_
        | refine Wk.load rfl rfl rfl rfl (by simp only [loadE, ti94, ti5, ti3, ti71, ti258, ti256, ti244]; rfl) rfl ?_
        | refine Wk.builtin rfl rfl rfl (by simp only [builtinE, ti94, ti5, ti3, ti71, ti258, ti256, ti244]; rfl) rfl ?_
        | refine Wk.bin rfl rfl rfl rfl rfl rfl rfl rfl ?_
        | refine Wk.un rfl rfl rfl rfl rfl rfl ?_
        | refine Wk.pickT rfl rfl rfl rfl rfl rfl rfl ?_
        | refine Wk.pickF rfl rfl rfl rfl rfl rfl rfl ?_
        | refine Wk.skip rfl rfl rfl rfl ?_
        | refine Wk.nilCheck rfl rfl rfl rfl rfl ?_
        | refine Wk.makeFunc rfl rfl rfl rfl rfl ?_
        | refine Wk.conv rfl rfl rfl rfl (by simp only [convE, ti3, ti94, ti5]; rfl) rfl ?_
        | (refine Wk.done ?_; try dsimp only [sget])
        | refine Wc.ret ?_)
    simp only [hd]
    repeat (first
        | refine Wk.indexAddr rfl rfl rfl rfl rfl rfl hix rfl ?_
        | refine Wk.load rfl rfl rfl rfl hld rfl ?_
        | refine Wk.conv rfl rfl rfl rfl (hcv _) rfl ?_
        | refine Wk.bin rfl rfl rfl rfl rfl rfl (xor8 hm8 hb256) rfl ?_
        | refine Wk.call rfl rfl rfl rfl rfl (by kernel_rfl) rfl ho rfl ?_
        | refine Wk.bin rfl rfl rfl rfl rfl rfl (shr32_8 _) rfl ?_
        | refine Wk.bin rfl rfl rfl rfl rfl rfl (xor32 hby (by omega)) rfl ?_
        | refine Wc.seq ?_
        | refine Wc.region (by kernel_rfl) ?_
        | refine Wc.condT rfl rfl ?_
        | refine Wc.condF rfl rfl ?_
        | refine Wc.skip ?_
        | refine Wc.block ?_
        | refine Wc.exit ?_
        | refine Wk.move rfl rfl rfl rfl rfl ?_
        | refine Wk.assign rfl rfl rfl rfl rfl ?_
        | refine Wk.fieldAddr rfl rfl rfl rfl (by simp only [fieldAddrE, fieldOf, ti94, ti5, ti3, ti71, ti258, ti256, ti244]; rfl) rfl ?_
        | refine Wk.load rfl rfl rfl rfl (by simp only [loadE, ti94, ti5, ti3, ti71, ti258, ti256, ti244]; rfl) rfl ?_
        | refine Wk.builtin rfl rfl rfl (by simp only [builtinE, ti94, ti5, ti3, ti71, ti258, ti256, ti244]; rfl) rfl ?_
        | refine Wk.bin rfl rfl rfl rfl rfl rfl rfl rfl ?_
        | refine Wk.un rfl rfl rfl rfl rfl rfl ?_
        | refine Wk.pickT rfl rfl rfl rfl rfl rfl rfl ?_
        | refine Wk.pickF rfl rfl rfl rfl rfl rfl rfl ?_
        | refine Wk.skip rfl rfl rfl rfl ?_
        | refine Wk.nilCheck rfl rfl rfl rfl rfl ?_
        | refine Wk.makeFunc rfl rfl rfl rfl rfl ?_
        | refine Wk.conv rfl rfl rfl rfl (by simp only [convE, ti3, ti94, ti5]; rfl) rfl ?_
        | (refine Wk.done ?_; try dsimp only [sget])
        | refine Wc.ret ?_)
    refine ⟨bs.length - (k + 1), by omega, k + 1, _, true, by omega, rfl, ?_, ?_, rfl, rfl, rfl, rfl, congrArg _ hw, rfl⟩
    · exact Nat.xor_lt_two_pow (n := 32) hby (by omega)
    · rw [hcr, List.drop_eq_getElem_cons hlt, crcMore_cons]
      have : bs[k] = b := by rw [List.getElem?_eq_getElem hlt] at hbk; exact Option.some.inj hbk
      rw [this]
  · have hke : k = bs.length := by omega
    have hd : decide ((k : Int) < (rows.length : Nat)) = false := by simp; omega
    repeat (first
        | refine Wc.seq ?_
        | refine Wc.region (by kernel_rfl) ?_
        | refine Wc.condT rfl rfl ?_
        | refine Wc.condF rfl rfl ?_
        | refine Wc.skip ?_
        | refine Wc.block ?_
        | refine Wc.exit ?_
        | refine Wk.move rfl rfl rfl rfl rfl ?_
        | refine Wk.assign rfl rfl rfl rfl rfl ?_
        | refine Wk.fieldAddr rfl rfl rfl rfl (by simp only [fieldAddrE, fieldOf, ti94, ti5, ti3, ti71, ti258, ti256, ti244]; rfl) rfl ?_
        | refine Wk.load rfl rfl rfl rfl (by simp only [loadE, ti94, ti5, ti3, ti71, ti258, ti256, ti244]; rfl) rfl ?_
        | refine Wk.builtin rfl rfl rfl (by simp only [builtinE, ti94, ti5, ti3, ti71, ti258, ti256, ti244]; rfl) rfl ?_
        | refine Wk.bin rfl rfl rfl rfl rfl rfl rfl rfl ?_
        | refine Wk.un rfl rfl rfl rfl rfl rfl ?_
        | refine Wk.pickT rfl rfl rfl rfl rfl rfl rfl ?_
        | refine Wk.pickF rfl rfl rfl rfl rfl rfl rfl ?_
        | refine Wk.skip rfl rfl rfl rfl ?_
        | refine Wk.nilCheck rfl rfl rfl rfl rfl ?_
        | refine Wk.makeFunc rfl rfl rfl rfl rfl ?_
        | refine Wk.conv rfl rfl rfl rfl (by simp only [convE, ti3, ti94, ti5]; rfl) rfl ?_
        | (refine Wk.done ?_; try dsimp only [sget])
        | refine Wc.ret ?_)
    simp only [hd]
    repeat (first
        | refine Wc.seq ?_
        | refine Wc.region (by kernel_rfl) ?_
        | refine Wc.condT rfl rfl ?_
        | refine Wc.condF rfl rfl ?_
        | refine Wc.skip ?_
        | refine Wc.block ?_
        | refine Wc.exit ?_
        | refine Wk.move rfl rfl rfl rfl rfl ?_
        | refine Wk.assign rfl rfl rfl rfl rfl ?_
        | refine Wk.fieldAddr rfl rfl rfl rfl (by simp only [fieldAddrE, fieldOf, ti94, ti5, ti3, ti71, ti258, ti256, ti244]; rfl) rfl ?_
        | refine Wk.load rfl rfl rfl rfl (by simp only [loadE, ti94, ti5, ti3, ti71, ti258, ti256, ti244]; rfl) rfl ?_
        | refine Wk.builtin rfl rfl rfl (by simp only [builtinE, ti94, ti5, ti3, ti71, ti258, ti256, ti244]; rfl) rfl ?_
        | refine Wk.bin rfl rfl rfl rfl rfl rfl rfl rfl ?_
        | refine Wk.un rfl rfl rfl rfl rfl rfl ?_
        | refine Wk.pickT rfl rfl rfl rfl rfl rfl rfl ?_
        | refine Wk.pickF rfl rfl rfl rfl rfl rfl rfl ?_
        | refine Wk.skip rfl rfl rfl rfl ?_
        | refine Wk.nilCheck rfl rfl rfl rfl rfl ?_
        | refine Wk.makeFunc rfl rfl rfl rfl rfl ?_
        | refine Wk.conv rfl rfl rfl rfl (by simp only [convE, ti3, ti94, ti5]; rfl) rfl ?_
        | (refine Wk.done ?_; try dsimp only [sget])
        | refine Wc.ret ?_)
    have hck2 : crcMore c bs = ck := by rw [hcr, List.drop_eq_nil_of_le (by omega)]; rfl
    rw [hck2]
    refine ⟨(fun _ h => by cases h), _, _, rfl, rfl, ?_⟩
    unfold cut
    have hm : max (max s.h.length s.keep) (EV.refs (.int .u32 (ck : Int))) = s.h.length := by simp only [EV.refs]; omega
    simp only [hm, List.take_left']

theorem ev_sum {s : St} (hp : PrimOnce prim) {x : EV} {rows : List (List EV)} {bs : List Nat} (hx : x.szIs 1 = true) (hr : rowsOf s x = some rows) (hb : bytes8 rows = some bs) (hkeep : s.keep ≤ s.h.length) (h44 : bs.length ≤ 17592186044416) :
    Ev C prim 163 [x] s (.int .u32 (Nat.xor (crcMore 4294967295 bs) 4294967295 : Nat)) s := by
  have hm := ev_more hp hx hr hb hkeep h44 (c := 4294967295) (by omega)
  have hlt : ∀ (bs : List Nat) (c : Nat), c < 4294967296 → (∀ b ∈ bs, b < 256) → crcMore c bs < 4294967296 := by
    intro bs
    induction bs with
    | nil => intro c h _; exact h
    | cons b bs ih =>
      intro c h hbs
      rw [crcMore_cons]
      exact ih _ (Nat.xor_lt_two_pow (n := 32) (crcByte_lt (Nat.lt_of_lt_of_le (Nat.xor_lt_two_pow (n := 8) (Nat.mod_lt _ (by omega)) (hbs b (by simp))) (by omega))) (by omega)) (fun b hb => hbs b (by simp [hb]))
  have hml : crcMore 4294967295 bs < 4294967296 := hlt bs _ (by omega) fun b hb' => by
    obtain ⟨i, hi⟩ := List.getElem?_of_mem hb'
    exact ((bytes8_get hb).2 i b hi).1
  have hun : unE .xor (.int .u32 (crcMore 4294967295 bs : Nat)) = some (.int .u32 (Nat.xor (crcMore 4294967295 bs) 4294967295 : Nat)) := by
    have := xor32 (a := 4294967295) (b := crcMore 4294967295 bs) (by omega) hml
    rw [Nat.xor_comm] at this
    exact this
  refine Ev.full1 (by kernel_rfl) fn163 rfl ?_ (by kernel_rfl) ?_
  · have : C.pure 163 = false := by kernel_rfl
    rw [this, Bool.false_and]
  change Wc _ _ _ _ 6 _ _ _ _
  repeat (first
      | refine Wk.callR rfl rfl rfl rfl rfl (by kernel_rfl) hm rfl ?_
      | refine Wk.un rfl rfl rfl rfl hun rfl ?_
      | refine Wc.seq ?_
      | refine Wc.region (by kernel_rfl) ?_
      | refine Wc.condT rfl rfl ?_
      | refine Wc.condF rfl rfl ?_
      | refine Wc.skip ?_
      | refine Wc.block ?_
      | refine Wc.exit ?_
      | refine Wk.move rfl rfl rfl rfl rfl ?_
      | refine Wk.assign rfl rfl rfl rfl rfl ?_
      | refine Wk.fieldAddr rfl rfl rfl rfl (by simp only [fieldAddrE, fieldOf, ti94, ti5, ti3, ti71, ti258, ti256, ti244]; rfl) rfl ?_
      | refine Wk.load rfl rfl rfl rfl (by simp only [loadE, ti94, ti5, ti3, ti71, ti258, ti256, ti244]; rfl) rfl ?_
      | refine Wk.builtin rfl rfl rfl (by simp only [builtinE, ti94, ti5, ti3, ti71, ti258, ti256, ti244]; rfl) rfl ?_
      | refine Wk.bin rfl rfl rfl rfl rfl rfl rfl rfl ?_
      | refine Wk.un rfl rfl rfl rfl rfl rfl ?_
      | refine Wk.pickT rfl rfl rfl rfl rfl rfl rfl ?_
      | refine Wk.pickF rfl rfl rfl rfl rfl rfl rfl ?_
      | refine Wk.skip rfl rfl rfl rfl ?_
      | refine Wk.nilCheck rfl rfl rfl rfl rfl ?_
      | refine Wk.makeFunc rfl rfl rfl rfl rfl ?_
      | refine Wk.conv rfl rfl rfl rfl (by simp only [convE, ti3, ti94, ti5]; rfl) rfl ?_
      | (refine Wk.done ?_; try dsimp only [sget])
      | refine Wc.ret ?_)
  refine ⟨(fun _ h => by cases h), _, _, rfl, rfl, ?_⟩
  unfold cut
  rw [List.take_of_length_le (by omega)]

end Go.Ev
