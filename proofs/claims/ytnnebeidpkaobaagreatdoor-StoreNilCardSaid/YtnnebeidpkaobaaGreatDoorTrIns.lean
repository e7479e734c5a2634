/- slices.Insert of one element: the walks, over this seat's program. -/
import Derived.Test.YtnnebeidpkaobaaGreatDoorProg
import Derived.Shelf.Spec.SlicesInsert
import Derived.WalkKit
import Derived.Tactics
import Derived.Tactics2
import Derived.Lib.Walk
import Derived.Lib.SliceRun
import Derived.RegionTactic
import Derived.RegionCalls
import Derived.Test.YtnnebeidpkaobaaGreatDoorEvIns
set_option linter.unusedVariables false
set_option linter.unusedSimpArgs false
set_option linter.unusedSectionVars false
namespace Go.Proofs.InsTr
open Go Go.Proofs
section
variable (b off n c i : Nat) (va : Option Addr) (vc : Nat) (w : World)
set_option maxHeartbeats 4000000
set_option maxRecDepth 100000

theorem end201 (base : Option Addr)  (R : Value) (w1 : World)
    (hrun : (Builtin.append_ #[60, 60] 60 #[.slice base n c, .slice va 1 vc]).run Tryz.prog w = .ok R w1) :
    Calls Tryz.prog 201 #[.slice base n c, .int .i64 n, .slice va 1 vc] w fun e w' => e = .returned R ∧ w' = w1 := by
  have hz1 : ¬ ((1 : Int) = 0) := by omega
  cases base with
  | none =>
    go_enter Tryz.func201, Tryz.ntmps201
    go_wp2_with (at_builtin; refine Lib.wpList_append_run _ rfl _ _ _ _ rfl _ _ rfl rfl _ _ hrun ?_)
    all_goals (go_ret; exact ⟨rfl, rfl⟩)
  | some a =>
    obtain ⟨ab, ao, asp⟩ := a
    go_enter Tryz.func201, Tryz.ntmps201
    go_wp2_with (at_builtin; refine Lib.wpList_append_run _ rfl _ _ _ _ rfl _ _ rfl rfl _ _ hrun ?_)
    all_goals (go_ret; exact ⟨rfl, rfl⟩)

/-- No room, in the midst: a new row. -/
theorem grow201 (N G B : Nat) (w1 w2 w3 : World) (V2 V3 : Value) (hi : i < n) (hnc : n ≤ c) (hroom : c < n + 1) (hn44 : n ≤ 17592186044416) (hG : n + 1 ≤ G)
    (hrz : (Builtin.append_ #[60, 3] 60 #[.slice (some ⟨B, off, none⟩) i c, .int .i64 ((n : Int) + 1 - (i : Int))]).run Tryz.prog w = .ok (.slice (some ⟨N, 0, none⟩) (n + 1) G) w1)
    (hA : (Builtin.copy_ #[60, 60] 3 #[.slice (some ⟨N, i * 2, none⟩) (n + 1 - i) (G - i), .slice va 1 vc]).run Tryz.prog w1 = .ok V2 w2)
    (hB : (Builtin.copy_ #[60, 60] 3 #[.slice (some ⟨N, (i + 1) * 2, none⟩) (n + 1 - (i + 1)) (G - (i + 1)), .slice (some ⟨B, off + i * 2, none⟩) (n - i) (c - i)]).run Tryz.prog w2.drew = .ok V3 w3) :
    Calls Tryz.prog 201 #[.slice (some ⟨B, off, none⟩) n c, .int .i64 i, .slice va 1 vc] w fun e w' => e = .returned (.slice (some ⟨N, 0, none⟩) (n + 1) G) ∧ w' = w3 := by
  have mixed : Tryz.prog.follows .mixedOrders = true := by kernel_rfl
  have hz1 : ¬ ((1 : Int) = 0) := by omega
  have hz2 : ¬ ((i : Int) = (n : Int)) := by omega
  have hz3 : (c : Int) < (n : Int) + 1 := by omega
  have hGi : ¬ (G = i) := by omega
  have hGim : ¬ (G = i + 1) := by omega
  have hci : ¬ (c = i) := by omega
  have hw1 : IntKind.i64.wrap ((i : Int) + 1) = (i : Int) + 1 := by rw [IntKind.wrap_i64]; omega
  have hb1 : (0 : Int) ≤ (i : Int) + 1 := by omega
  have hin : i ≤ n := by omega
  have htn : ((i : Int) + 1).toNat = i + 1 := by omega
  have hb3 : (i : Int) ≤ (n : Int) := by omega
  go_enter Tryz.func201, Tryz.ntmps201
  go_wp2_with (first
    | (at_builtin; refine Lib.wpList_append_run _ rfl _ _ _ _ rfl _ _ rfl rfl _ _ hrz ?_)
    | (at_builtin; refine wpList_copy_runI _ rfl _ _ 60 60 rfl _ _ rfl rfl hA ?_))
  go_region_law_o (refine step_copy_runI rfl _ _ 60 60 rfl (.slice (some ⟨N, (i + 1) * 2, none⟩) (n + 1 - (i + 1)) (G - (i + 1))) (.slice (some ⟨B, off + i * 2, none⟩) (n - i) (c - i)) (by simp [Act.eval, Act.put]) (by simp [Act.eval, Act.put]) hB ?_)
  go_wp2
  go_ret
  exact ⟨rfl, rfl⟩

/-- Room, in the midst: in place. -/
theorem shift201 (B : Nat) (w2 w3 : World) (V2 V3 : Value) (hi : i < n) (hroom : n + 1 ≤ c) (hn44 : n ≤ 17592186044416)
    (hov : ∀ lb cb, (callFunc 210 #[.slice va 1 vc, .slice (some ⟨B, off + (i + 1) * 2, none⟩) lb cb]).run Tryz.prog w = .ok (.value (.bool false)) w)
    (hA : (Builtin.copy_ #[60, 60] 3 #[.slice (some ⟨B, off + (i + 1) * 2, none⟩) (n + 1 - (i + 1)) (c - (i + 1)), .slice (some ⟨B, off + i * 2, none⟩) (n + 1 - i) (c - i)]).run Tryz.prog w.drew = .ok V2 w2)
    (hB : (Builtin.copy_ #[60, 60] 3 #[.slice (some ⟨B, off + i * 2, none⟩) (n + 1 - i) (c - i), .slice va 1 vc]).run Tryz.prog w2 = .ok V3 w3) :
    Calls Tryz.prog 201 #[.slice (some ⟨B, off, none⟩) n c, .int .i64 i, .slice va 1 vc] w fun e w' => e = .returned (.slice (some ⟨B, off, none⟩) (n + 1) c) ∧ w' = w3 := by
  have mixed : Tryz.prog.follows .mixedOrders = true := by kernel_rfl
  have hz1 : ¬ ((1 : Int) = 0) := by omega
  have hz2 : ¬ ((i : Int) = (n : Int)) := by omega
  have hw1 : IntKind.i64.wrap ((i : Int) + 1) = (i : Int) + 1 := by rw [IntKind.wrap_i64]; omega
  have hb1 : (0 : Int) ≤ (i : Int) + 1 := by omega
  have hin : i ≤ n := by omega
  have htn : ((i : Int) + 1).toNat = i + 1 := by omega
  have hb2 : ¬ (c = i + 1) := by omega
  have hb3 : (i : Int) ≤ (n : Int) + 1 := by omega
  have hb4 : ¬ (c = i) := by omega
  go_enter Tryz.func201, Tryz.ntmps201
  go_wp2_with (simp only [hov])
  go_region_law_o (refine step_copy_runI rfl _ _ 60 60 rfl (.slice (some ⟨B, off + (i + 1) * 2, none⟩) (n + 1 - (i + 1)) (c - (i + 1))) (.slice (some ⟨B, off + i * 2, none⟩) (n + 1 - i) (c - i)) (by simp [Act.eval, Act.put]) (by simp [Act.eval, Act.put]) hA ?_)
  go_wp2_with (at_builtin; refine wpList_copy_runI _ rfl _ _ 60 60 rfl _ _ rfl rfl hB ?_)
  go_ret
  exact ⟨rfl, rfl⟩

theorem end155 (base : Option Addr)  (R : Value) (w1 : World)
    (hrun : (Builtin.append_ #[31, 31] 31 #[.slice base n c, .slice va 1 vc]).run Tryz.prog w = .ok R w1) :
    Calls Tryz.prog 155 #[.slice base n c, .int .i64 n, .slice va 1 vc] w fun e w' => e = .returned R ∧ w' = w1 := by
  have hz1 : ¬ ((1 : Int) = 0) := by omega
  cases base with
  | none =>
    go_enter Tryz.func155, Tryz.ntmps155
    go_wp2_with (at_builtin; refine Lib.wpList_append_run _ rfl _ _ _ _ rfl _ _ rfl rfl _ _ hrun ?_)
    all_goals (go_ret; exact ⟨rfl, rfl⟩)
  | some a =>
    obtain ⟨ab, ao, asp⟩ := a
    go_enter Tryz.func155, Tryz.ntmps155
    go_wp2_with (at_builtin; refine Lib.wpList_append_run _ rfl _ _ _ _ rfl _ _ rfl rfl _ _ hrun ?_)
    all_goals (go_ret; exact ⟨rfl, rfl⟩)

/-- No room, in the midst: a new row. -/
theorem grow155 (N G B : Nat) (w1 w2 w3 : World) (V2 V3 : Value) (hi : i < n) (hnc : n ≤ c) (hroom : c < n + 1) (hn44 : n ≤ 17592186044416) (hG : n + 1 ≤ G)
    (hrz : (Builtin.append_ #[31, 3] 31 #[.slice (some ⟨B, off, none⟩) i c, .int .i64 ((n : Int) + 1 - (i : Int))]).run Tryz.prog w = .ok (.slice (some ⟨N, 0, none⟩) (n + 1) G) w1)
    (hA : (Builtin.copy_ #[31, 31] 3 #[.slice (some ⟨N, i * 5, none⟩) (n + 1 - i) (G - i), .slice va 1 vc]).run Tryz.prog w1 = .ok V2 w2)
    (hB : (Builtin.copy_ #[31, 31] 3 #[.slice (some ⟨N, (i + 1) * 5, none⟩) (n + 1 - (i + 1)) (G - (i + 1)), .slice (some ⟨B, off + i * 5, none⟩) (n - i) (c - i)]).run Tryz.prog w2.drew = .ok V3 w3) :
    Calls Tryz.prog 155 #[.slice (some ⟨B, off, none⟩) n c, .int .i64 i, .slice va 1 vc] w fun e w' => e = .returned (.slice (some ⟨N, 0, none⟩) (n + 1) G) ∧ w' = w3 := by
  have mixed : Tryz.prog.follows .mixedOrders = true := by kernel_rfl
  have hz1 : ¬ ((1 : Int) = 0) := by omega
  have hz2 : ¬ ((i : Int) = (n : Int)) := by omega
  have hz3 : (c : Int) < (n : Int) + 1 := by omega
  have hGi : ¬ (G = i) := by omega
  have hGim : ¬ (G = i + 1) := by omega
  have hci : ¬ (c = i) := by omega
  have hw1 : IntKind.i64.wrap ((i : Int) + 1) = (i : Int) + 1 := by rw [IntKind.wrap_i64]; omega
  have hb1 : (0 : Int) ≤ (i : Int) + 1 := by omega
  have hin : i ≤ n := by omega
  have htn : ((i : Int) + 1).toNat = i + 1 := by omega
  have hb3 : (i : Int) ≤ (n : Int) := by omega
  go_enter Tryz.func155, Tryz.ntmps155
  go_wp2_with (first
    | (at_builtin; refine Lib.wpList_append_run _ rfl _ _ _ _ rfl _ _ rfl rfl _ _ hrz ?_)
    | (at_builtin; refine wpList_copy_runI _ rfl _ _ 31 31 rfl _ _ rfl rfl hA ?_))
  go_region_law_o (refine step_copy_runI rfl _ _ 31 31 rfl (.slice (some ⟨N, (i + 1) * 5, none⟩) (n + 1 - (i + 1)) (G - (i + 1))) (.slice (some ⟨B, off + i * 5, none⟩) (n - i) (c - i)) (by simp [Act.eval, Act.put]) (by simp [Act.eval, Act.put]) hB ?_)
  go_wp2
  go_ret
  exact ⟨rfl, rfl⟩

/-- Room, in the midst: in place. -/
theorem shift155 (B : Nat) (w2 w3 : World) (V2 V3 : Value) (hi : i < n) (hroom : n + 1 ≤ c) (hn44 : n ≤ 17592186044416)
    (hov : ∀ lb cb, (callFunc 190 #[.slice va 1 vc, .slice (some ⟨B, off + (i + 1) * 5, none⟩) lb cb]).run Tryz.prog w = .ok (.value (.bool false)) w)
    (hA : (Builtin.copy_ #[31, 31] 3 #[.slice (some ⟨B, off + (i + 1) * 5, none⟩) (n + 1 - (i + 1)) (c - (i + 1)), .slice (some ⟨B, off + i * 5, none⟩) (n + 1 - i) (c - i)]).run Tryz.prog w.drew = .ok V2 w2)
    (hB : (Builtin.copy_ #[31, 31] 3 #[.slice (some ⟨B, off + i * 5, none⟩) (n + 1 - i) (c - i), .slice va 1 vc]).run Tryz.prog w2 = .ok V3 w3) :
    Calls Tryz.prog 155 #[.slice (some ⟨B, off, none⟩) n c, .int .i64 i, .slice va 1 vc] w fun e w' => e = .returned (.slice (some ⟨B, off, none⟩) (n + 1) c) ∧ w' = w3 := by
  have mixed : Tryz.prog.follows .mixedOrders = true := by kernel_rfl
  have hz1 : ¬ ((1 : Int) = 0) := by omega
  have hz2 : ¬ ((i : Int) = (n : Int)) := by omega
  have hw1 : IntKind.i64.wrap ((i : Int) + 1) = (i : Int) + 1 := by rw [IntKind.wrap_i64]; omega
  have hb1 : (0 : Int) ≤ (i : Int) + 1 := by omega
  have hin : i ≤ n := by omega
  have htn : ((i : Int) + 1).toNat = i + 1 := by omega
  have hb2 : ¬ (c = i + 1) := by omega
  have hb3 : (i : Int) ≤ (n : Int) + 1 := by omega
  have hb4 : ¬ (c = i) := by omega
  go_enter Tryz.func155, Tryz.ntmps155
  go_wp2_with (simp only [hov])
  go_region_law_o (refine step_copy_runI rfl _ _ 31 31 rfl (.slice (some ⟨B, off + (i + 1) * 5, none⟩) (n + 1 - (i + 1)) (c - (i + 1))) (.slice (some ⟨B, off + i * 5, none⟩) (n + 1 - i) (c - i)) (by simp [Act.eval, Act.put]) (by simp [Act.eval, Act.put]) hA ?_)
  go_wp2_with (at_builtin; refine wpList_copy_runI _ rfl _ _ 31 31 rfl _ _ rfl rfl hB ?_)
  go_ret
  exact ⟨rfl, rfl⟩

theorem end156 (base : Option Addr)  (R : Value) (w1 : World)
    (hrun : (Builtin.append_ #[32, 32] 32 #[.slice base n c, .slice va 1 vc]).run Tryz.prog w = .ok R w1) :
    Calls Tryz.prog 156 #[.slice base n c, .int .i64 n, .slice va 1 vc] w fun e w' => e = .returned R ∧ w' = w1 := by
  have hz1 : ¬ ((1 : Int) = 0) := by omega
  cases base with
  | none =>
    go_enter Tryz.func156, Tryz.ntmps156
    go_wp2_with (at_builtin; refine Lib.wpList_append_run _ rfl _ _ _ _ rfl _ _ rfl rfl _ _ hrun ?_)
    all_goals (go_ret; exact ⟨rfl, rfl⟩)
  | some a =>
    obtain ⟨ab, ao, asp⟩ := a
    go_enter Tryz.func156, Tryz.ntmps156
    go_wp2_with (at_builtin; refine Lib.wpList_append_run _ rfl _ _ _ _ rfl _ _ rfl rfl _ _ hrun ?_)
    all_goals (go_ret; exact ⟨rfl, rfl⟩)

/-- No room, in the midst: a new row. -/
theorem grow156 (N G B : Nat) (w1 w2 w3 : World) (V2 V3 : Value) (hi : i < n) (hnc : n ≤ c) (hroom : c < n + 1) (hn44 : n ≤ 17592186044416) (hG : n + 1 ≤ G)
    (hrz : (Builtin.append_ #[32, 3] 32 #[.slice (some ⟨B, off, none⟩) i c, .int .i64 ((n : Int) + 1 - (i : Int))]).run Tryz.prog w = .ok (.slice (some ⟨N, 0, none⟩) (n + 1) G) w1)
    (hA : (Builtin.copy_ #[32, 32] 3 #[.slice (some ⟨N, i * 20, none⟩) (n + 1 - i) (G - i), .slice va 1 vc]).run Tryz.prog w1 = .ok V2 w2)
    (hB : (Builtin.copy_ #[32, 32] 3 #[.slice (some ⟨N, (i + 1) * 20, none⟩) (n + 1 - (i + 1)) (G - (i + 1)), .slice (some ⟨B, off + i * 20, none⟩) (n - i) (c - i)]).run Tryz.prog w2.drew = .ok V3 w3) :
    Calls Tryz.prog 156 #[.slice (some ⟨B, off, none⟩) n c, .int .i64 i, .slice va 1 vc] w fun e w' => e = .returned (.slice (some ⟨N, 0, none⟩) (n + 1) G) ∧ w' = w3 := by
  have mixed : Tryz.prog.follows .mixedOrders = true := by kernel_rfl
  have hz1 : ¬ ((1 : Int) = 0) := by omega
  have hz2 : ¬ ((i : Int) = (n : Int)) := by omega
  have hz3 : (c : Int) < (n : Int) + 1 := by omega
  have hGi : ¬ (G = i) := by omega
  have hGim : ¬ (G = i + 1) := by omega
  have hci : ¬ (c = i) := by omega
  have hw1 : IntKind.i64.wrap ((i : Int) + 1) = (i : Int) + 1 := by rw [IntKind.wrap_i64]; omega
  have hb1 : (0 : Int) ≤ (i : Int) + 1 := by omega
  have hin : i ≤ n := by omega
  have htn : ((i : Int) + 1).toNat = i + 1 := by omega
  have hb3 : (i : Int) ≤ (n : Int) := by omega
  go_enter Tryz.func156, Tryz.ntmps156
  go_wp2_with (first
    | (at_builtin; refine Lib.wpList_append_run _ rfl _ _ _ _ rfl _ _ rfl rfl _ _ hrz ?_)
    | (at_builtin; refine wpList_copy_runI _ rfl _ _ 32 32 rfl _ _ rfl rfl hA ?_))
  go_region_law_o (refine step_copy_runI rfl _ _ 32 32 rfl (.slice (some ⟨N, (i + 1) * 20, none⟩) (n + 1 - (i + 1)) (G - (i + 1))) (.slice (some ⟨B, off + i * 20, none⟩) (n - i) (c - i)) (by simp [Act.eval, Act.put]) (by simp [Act.eval, Act.put]) hB ?_)
  go_wp2
  go_ret
  exact ⟨rfl, rfl⟩

/-- Room, in the midst: in place. -/
theorem shift156 (B : Nat) (w2 w3 : World) (V2 V3 : Value) (hi : i < n) (hroom : n + 1 ≤ c) (hn44 : n ≤ 17592186044416)
    (hov : ∀ lb cb, (callFunc 192 #[.slice va 1 vc, .slice (some ⟨B, off + (i + 1) * 20, none⟩) lb cb]).run Tryz.prog w = .ok (.value (.bool false)) w)
    (hA : (Builtin.copy_ #[32, 32] 3 #[.slice (some ⟨B, off + (i + 1) * 20, none⟩) (n + 1 - (i + 1)) (c - (i + 1)), .slice (some ⟨B, off + i * 20, none⟩) (n + 1 - i) (c - i)]).run Tryz.prog w.drew = .ok V2 w2)
    (hB : (Builtin.copy_ #[32, 32] 3 #[.slice (some ⟨B, off + i * 20, none⟩) (n + 1 - i) (c - i), .slice va 1 vc]).run Tryz.prog w2 = .ok V3 w3) :
    Calls Tryz.prog 156 #[.slice (some ⟨B, off, none⟩) n c, .int .i64 i, .slice va 1 vc] w fun e w' => e = .returned (.slice (some ⟨B, off, none⟩) (n + 1) c) ∧ w' = w3 := by
  have mixed : Tryz.prog.follows .mixedOrders = true := by kernel_rfl
  have hz1 : ¬ ((1 : Int) = 0) := by omega
  have hz2 : ¬ ((i : Int) = (n : Int)) := by omega
  have hw1 : IntKind.i64.wrap ((i : Int) + 1) = (i : Int) + 1 := by rw [IntKind.wrap_i64]; omega
  have hb1 : (0 : Int) ≤ (i : Int) + 1 := by omega
  have hin : i ≤ n := by omega
  have htn : ((i : Int) + 1).toNat = i + 1 := by omega
  have hb2 : ¬ (c = i + 1) := by omega
  have hb3 : (i : Int) ≤ (n : Int) + 1 := by omega
  have hb4 : ¬ (c = i) := by omega
  go_enter Tryz.func156, Tryz.ntmps156
  go_wp2_with (simp only [hov])
  go_region_law_o (refine step_copy_runI rfl _ _ 32 32 rfl (.slice (some ⟨B, off + (i + 1) * 20, none⟩) (n + 1 - (i + 1)) (c - (i + 1))) (.slice (some ⟨B, off + i * 20, none⟩) (n + 1 - i) (c - i)) (by simp [Act.eval, Act.put]) (by simp [Act.eval, Act.put]) hA ?_)
  go_wp2_with (at_builtin; refine wpList_copy_runI _ rfl _ _ 32 32 rfl _ _ rfl rfl hB ?_)
  go_ret
  exact ⟨rfl, rfl⟩

end
end Go.Proofs.InsTr
namespace Go.Ev
open Go Go.Proofs
theorem walk201 : InsWalk Tryz.prog 201 210 60 3 2 := ⟨fun base n c va vc w R w1 h => InsTr.end201 n c va vc w base R w1 h,
  fun off n c i va vc w N G B w1 w2 w3 V2 V3 h1 h2 h3 h4 h5 h6 h7 h8 => InsTr.grow201 off n c i va vc w N G B w1 w2 w3 V2 V3 h1 h2 h3 h4 h5 h6 h7 h8,
  fun off n c i va vc w B w2 w3 V2 V3 h1 h2 h3 h4 h5 h6 => InsTr.shift201 off n c i va vc w B w2 w3 V2 V3 h1 h2 h3 h4 h5 h6⟩
theorem walk155 : InsWalk Tryz.prog 155 190 31 3 5 := ⟨fun base n c va vc w R w1 h => InsTr.end155 n c va vc w base R w1 h,
  fun off n c i va vc w N G B w1 w2 w3 V2 V3 h1 h2 h3 h4 h5 h6 h7 h8 => InsTr.grow155 off n c i va vc w N G B w1 w2 w3 V2 V3 h1 h2 h3 h4 h5 h6 h7 h8,
  fun off n c i va vc w B w2 w3 V2 V3 h1 h2 h3 h4 h5 h6 => InsTr.shift155 off n c i va vc w B w2 w3 V2 V3 h1 h2 h3 h4 h5 h6⟩
theorem walk156 : InsWalk Tryz.prog 156 192 32 3 20 := ⟨fun base n c va vc w R w1 h => InsTr.end156 n c va vc w base R w1 h,
  fun off n c i va vc w N G B w1 w2 w3 V2 V3 h1 h2 h3 h4 h5 h6 h7 h8 => InsTr.grow156 off n c i va vc w N G B w1 w2 w3 V2 V3 h1 h2 h3 h4 h5 h6 h7 h8,
  fun off n c i va vc w B w2 w3 V2 V3 h1 h2 h3 h4 h5 h6 => InsTr.shift156 off n c i va vc w B w2 w3 V2 V3 h1 h2 h3 h4 h5 h6⟩
end Go.Ev
