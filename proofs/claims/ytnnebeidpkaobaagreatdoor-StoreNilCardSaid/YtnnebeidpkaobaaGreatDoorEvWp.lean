/- Reasoning over the evaluator, with values that are not known. -/
import Derived.Test.YtnnebeidpkaobaaGreatDoorEvExec2
set_option linter.unusedVariables false
set_option linter.unusedSimpArgs false
set_option linter.unusedSectionVars false
namespace Go.Ev
open Go
set_option linter.unusedSectionVars false
set_option linter.unusedVariables false

/-- Slots as a list of what was put, the last one first. -/
def sget : List (Nat × EV) → Nat → EV
  | [], _ => undefE
  | (i, v) :: l, j => match Nat.beq i j with
    | true => v
    | false => sget l j

/-- A frame of so many slots holds what was put. -/
def TmIs (tm : Tm) (n : Nat) (l : List (Nat × EV)) : Prop := tm.size = n ∧ (∃ d, Deep d tm.t ∧ tm.size ≤ 2 ^ d) ∧ ∀ j, j < n → tmGet tm j = sget l j

theorem TmIs.get {tm : Tm} {n : Nat} {l : List (Nat × EV)} (h : TmIs tm n l) {j : Nat} (hj : Nat.ble (Nat.succ j) n = true) : tmGet tm j = sget l j := h.2.2 j (Nat.le_of_ble_eq_true hj)

theorem TmIs.put {tm : Tm} {n : Nat} {l : List (Nat × EV)} (h : TmIs tm n l) {d : Nat} {v : EV} (hd : Nat.ble (Nat.succ d) n = true) : TmIs (putE tm (some d) v) n ((d, v) :: l) := by
  have hd' : d < n := Nat.le_of_ble_eq_true hd
  obtain ⟨h1, ⟨k, h2, h3⟩, h4⟩ := h
  refine ⟨by simp [putE, tmSet_size, h1], ⟨k, ?_, by simp only [putE, tmSet_size]; exact h3⟩, fun j hj => ?_⟩
  · simp only [putE]; unfold tmSet; split
    · exact Deep.set _ _ h2
    · exact h2
  · simp only [putE, sget]
    rw [tmGet_tmSet h2 h3]
    by_cases e : j = d
    · subst e; rw [if_pos ⟨rfl, by omega⟩]; simp
    · rw [if_neg (fun z => e z.1), h4 j hj]
      have : Nat.beq d j = false := by
        cases hb : Nat.beq d j with
        | false => rfl
        | true => exact absurd (Nat.eq_of_beq_eq_true hb).symm e
      rw [this]

theorem TmIs.put0 {tm : Tm} {n : Nat} {l : List (Nat × EV)} (h : TmIs tm n l) {v : EV} : TmIs (putE tm none v) n l := h

/-- Arguments come first. -/
def enumE : Nat → List EV → List (Nat × EV)
  | _, [] => []
  | i, v :: vs => (i, v) :: enumE (i + 1) vs

theorem sget_enum : ∀ (vs : List EV) (i j : Nat), i ≤ j → sget (enumE i vs) j = (lget vs (j - i)).getD undefE
  | [], i, j, _ => by simp [enumE, sget, lget]
  | v :: vs, i, j, h => by
    simp only [enumE, sget]
    by_cases e : i = j
    · subst e; simp [lget]
    · have : Nat.beq i j = false := by
        cases hb : Nat.beq i j with
        | false => rfl
        | true => exact absurd (Nat.eq_of_beq_eq_true hb) e
      rw [this]
      simp only []
      rw [sget_enum vs (i + 1) j (by omega), show j - i = (j - (i + 1)) + 1 by omega]
      rfl

theorem TmIs.new (args : List EV) (n : Nat) : TmIs (tmNew args n) n (enumE 0 args) := by
  have hlv := levels_ok n
  refine ⟨rfl, ⟨levels n, Deep.mk _ _ _ _, hlv⟩, fun j hj => ?_⟩
  unfold tmGet
  rw [ble_succ, decide_eq_true (show j < (tmNew args n).size from hj)]
  simp only [tmNew]
  rw [get_mk _ _ _ _ _ (by omega), sget_enum _ _ _ (Nat.zero_le _)]
  simp

section
variable (C : Ctx) (prim : CallE → Nat → FuncId → List EV → St → Option (EV × St))

/-- A call answers, with enough fuel. -/
def Ev (f : FuncId) (args : List EV) (s : St) (v : EV) (s' : St) : Prop := ∃ N, ∀ n, N ≤ n → callE C prim n f args s = some (v, s')

/-- Code comes to what is asked, with enough fuel. -/
def Wx (f n0 : Nat) (c : Code) (tm : Tm) (s : St) (Q : Ex → Tm → St → Prop) : Prop := ∃ N r, (∀ n, N ≤ n → exec C (callE C prim n) n f n0 c tm s = some r) ∧ Q r.1 r.2.1 r.2.2

/-- Operations in the text's order come to what is asked. -/
def Wo (f rid : Nat) (ops : List Oper) (i : Nat) (rest : List Oper) (tm : Tm) (s : St) (Q : Tm → St → Prop) : Prop :=
  ∃ N r, (∀ n, N ≤ n → runOps C (callE C prim n) f rid ops i rest tm s = some r) ∧ Q r.1 r.2

variable {C} {prim} {f n0 : Nat} {tm : Tm} {s : St} {Q : Ex → Tm → St → Prop}

theorem Wx.mono {c : Code} {Q' : Ex → Tm → St → Prop} (h : Wx C prim f n0 c tm s Q) (hq : ∀ e t s, Q e t s → Q' e t s) : Wx C prim f n0 c tm s Q' := by
  obtain ⟨N, r, h1, h2⟩ := h
  exact ⟨N, r, h1, hq _ _ _ h2⟩

theorem Wx.skip (h : Q .normal tm s) : Wx C prim f n0 .skip tm s Q := ⟨0, (.normal, tm, s), fun _ _ => rfl, h⟩
theorem Wx.ret (h : Q .ret tm s) : Wx C prim f n0 .ret tm s Q := ⟨0, (.ret, tm, s), fun _ _ => rfl, h⟩
theorem Wx.exit {id : Nat} (h : Q (.exit id) tm s) : Wx C prim f n0 (.exit id) tm s Q := ⟨0, (.exit id, tm, s), fun _ _ => rfl, h⟩

/-- What comes behind. -/
def thenQ (k : Tm → St → Prop) (Q : Ex → Tm → St → Prop) : Ex → Tm → St → Prop
  | .normal, t, s => k t s
  | e, t, s => Q e t s

theorem Wx.seq {a b : Code} (h : Wx C prim f n0 a tm s (thenQ (fun t s => Wx C prim f n0 b t s Q) Q)) : Wx C prim f n0 (.seq a b) tm s Q := by
  obtain ⟨N, ⟨e, t, s1⟩, h1, h2⟩ := h
  cases e with
  | normal =>
    obtain ⟨M, r, h3, h4⟩ := h2
    refine ⟨max N M, r, fun n hn => ?_, h4⟩
    simp only [exec]
    rw [h1 n (by omega)]
    exact h3 n (by omega)
  | exit id => exact ⟨N, (.exit id, t, s1), fun n hn => by simp only [exec]; rw [h1 n hn], h2⟩
  | ret => exact ⟨N, (.ret, t, s1), fun n hn => by simp only [exec]; rw [h1 n hn], h2⟩

theorem Wx.cond {c : Operand} {a b : Code} {x : Bool} (hc : evalO C tm c = some (.bool x)) (ht : x = true → Wx C prim f n0 a tm s Q) (hf : x = false → Wx C prim f n0 b tm s Q) : Wx C prim f n0 (.cond c a b) tm s Q := by
  cases x with
  | true =>
    obtain ⟨N, r, h1, h2⟩ := ht rfl
    exact ⟨N, r, fun n hn => by simp only [exec]; rw [hc]; exact h1 n hn, h2⟩
  | false =>
    obtain ⟨N, r, h1, h2⟩ := hf rfl
    exact ⟨N, r, fun n hn => by simp only [exec]; rw [hc]; exact h1 n hn, h2⟩

def blockQ (id : Nat) (Q : Ex → Tm → St → Prop) : Ex → Tm → St → Prop
  | .exit id', t, s => if id' = id then Q .normal t s else Q (.exit id') t s
  | e, t, s => Q e t s

theorem Wx.block {id : Nat} {b : Code} (h : Wx C prim f n0 b tm s (blockQ id Q)) : Wx C prim f n0 (.block id b) tm s Q := by
  obtain ⟨N, ⟨e, t, s1⟩, h1, h2⟩ := h
  cases e with
  | exit id' =>
    simp only [blockQ] at h2
    split at h2
    · rename_i he
      exact ⟨N, (.normal, t, s1), fun n hn => by simp only [exec]; rw [h1 n hn]; simp [he], h2⟩
    · rename_i he
      exact ⟨N, (.exit id', t, s1), fun n hn => by simp only [exec]; rw [h1 n hn]; simp [he], h2⟩
  | normal => exact ⟨N, (.normal, t, s1), fun n hn => by simp only [exec]; rw [h1 n hn], h2⟩
  | ret => exact ⟨N, (.ret, t, s1), fun n hn => by simp only [exec]; rw [h1 n hn], h2⟩

/-- A region in the text's order. -/
theorem Wx.region {id : Nat} {ops : Array Oper} (hk : C.kill f id = none) (h : Wo C prim f id ops.toList 0 ops.toList tm s (fun t s => Q .normal t s)) : Wx C prim f n0 (.region id ops false) tm s Q := by
  obtain ⟨N, r, h1, h2⟩ := h
  refine ⟨N, (.normal, r.1, r.2), fun n hn => ?_, h2⟩
  simp only [exec, tidy, hk, Bool.false_eq_true, if_false]
  rw [h1 n hn]

theorem Wo.nil {rid : Nat} {ops : List Oper} {i : Nat} {Q : Tm → St → Prop} (h : Q tm s) : Wo C prim f rid ops i [] tm s Q := ⟨0, (tm, s), fun _ _ => rfl, h⟩

theorem seqV_true (v : EV) : seqV v = true := by
  unfold seqV
  split <;> first | rfl | exact Nat.ble_eq_true_of_le (Nat.zero_le _)

theorem seqT_true (tm : Tm) (d : Option Tmp) : seqT tm d = true := by
  unfold seqT; split
  · exact seqV_true _
  · rfl

theorem Wo.op {rid : Nat} {ops : List Oper} {i : Nat} {o : Oper} {rest : List Oper} {v : EV} {s' : St} {Q : Tm → St → Prop} (hw : wantedE ops tm o = some true) (ho : ∀ call, opE C call f rid i o tm s = some (v, s'))
    (k : Wo C prim f rid ops (i + 1) rest (putE tm o.dst v) s' Q) : Wo C prim f rid ops i (o :: rest) tm s Q := by
  obtain ⟨N, r, h1, h2⟩ := k
  refine ⟨N, r, fun n hn => ?_, h2⟩
  simp only [runOps]
  rw [hw]
  simp only []
  rw [ho]
  simp only [seqV_true, seqT_true, Bool.and_self]
  exact h1 n hn

theorem Wo.skip {rid : Nat} {ops : List Oper} {i : Nat} {o : Oper} {rest : List Oper} {Q : Tm → St → Prop} (hw : wantedE ops tm o = some false)
    (k : Wo C prim f rid ops (i + 1) rest (putE tm o.dst undefE) s Q) : Wo C prim f rid ops i (o :: rest) tm s Q := by
  obtain ⟨N, r, h1, h2⟩ := k
  refine ⟨N, r, fun n hn => ?_, h2⟩
  simp only [runOps]
  rw [hw]
  exact h1 n hn

theorem Wo.call {rid : Nat} {ops : List Oper} {i : Nat} {o : Oper} {rest : List Oper} {c : Call} {g : Operand} {gf : FuncId} {first cap as as' : List EV} {s1 s' : St} {v : EV} {Q : Tm → St → Prop} (hw : wantedE ops tm o = some true) (ho : o.op = .call c) (hc : c.callee = .value g)
    (hg : evalO C tm g = some (.fn (.func gf) first cap)) (ha : evalL C tm c.args.toList = some as) (hb : C.byref gf = false) (hfz : freezeL s as = some (as', s1)) (he : Ev C prim gf (first ++ as' ++ cap) s1 v s')
    (k : Wo C prim f rid ops (i + 1) rest (putE tm o.dst v) s' Q) : Wo C prim f rid ops i (o :: rest) tm s Q := by
  obtain ⟨N, r, h1, h2⟩ := k
  obtain ⟨M, h3⟩ := he
  refine ⟨max N M, r, fun n hn => ?_, h2⟩
  simp only [runOps]
  rw [hw]
  simp only []
  have : opE C (callE C prim n) f rid i o tm s = some (v, s') := by
    unfold opE
    rw [ho]
    simp only [callO, hc, hg, ha, callV, hb, Bool.false_eq_true, if_false, hfz]
    exact h3 n (by omega)
  rw [this]
  simp only [seqV_true, seqT_true, Bool.and_self]
  exact h1 n (by omega)

/-- A loop: what holds ahead of each round, and what becomes less. -/
theorem Wx.loop {b : Code} (I : Tm → St → Prop) (μ : Tm → St → Nat) (h0 : I tm s) (round : ∀ tm s, I tm s → Wx C prim f n0 b tm s (thenQ (fun t s' => I t s' ∧ μ t s' < μ tm s) Q)) : Wx C prim f n0 (.loop b) tm s Q := by
  have key : ∀ m tm s, μ tm s = m → I tm s → ∃ N r, (∀ n k, N ≤ n → N ≤ k → loopE (fun tm s => exec C (callE C prim n) n f n0 b tm s) k tm s = some r) ∧ Q r.1 r.2.1 r.2.2 := by
    intro m
    induction m using Nat.strongRecOn with
    | _ m ih =>
      intro tm s hm hI
      obtain ⟨N, ⟨e, t, s1⟩, h1, h2⟩ := round tm s hI
      cases e with
      | normal =>
        obtain ⟨hI', hlt⟩ := h2
        have hlt : μ t s1 < μ tm s := hlt
        obtain ⟨M, r, h3, h4⟩ := ih (μ t s1) (by omega) t s1 rfl hI'
        refine ⟨max N (M + 1), r, fun n k hn hk => ?_, h4⟩
        obtain ⟨k, rfl⟩ : ∃ k', k = k' + 1 := ⟨k - 1, by omega⟩
        simp only [loopE]
        rw [h1 n (by omega)]
        exact h3 n k (by omega) (by omega)
      | exit id =>
        refine ⟨N + 1, (.exit id, t, s1), fun n k hn hk => ?_, h2⟩
        obtain ⟨k, rfl⟩ : ∃ k', k = k' + 1 := ⟨k - 1, by omega⟩
        simp only [loopE]
        rw [h1 n (by omega)]
      | ret =>
        refine ⟨N + 1, (.ret, t, s1), fun n k hn hk => ?_, h2⟩
        obtain ⟨k, rfl⟩ : ∃ k', k = k' + 1 := ⟨k - 1, by omega⟩
        simp only [loopE]
        rw [h1 n (by omega)]
  obtain ⟨N, r, h1, h2⟩ := key _ tm s rfl h0
  exact ⟨N, r, fun n hn => by simp only [exec]; exact h1 n n hn hn, h2⟩

/-- A function that is handed no references. -/
theorem Ev.pure {f : FuncId} {fn : Func} {c : Code} {args : List EV} {s : St} {v : EV} (hp : C.prim f = none) (hf : C.fn f = some fn) (hb : fn.body = some c) (hpu : C.pure f = true) (h0 : refsL args = 0)
    (h : Wx C prim f 0 c (tmNew args (max args.length fn.ntmps)) { h := [], keep := 0 } fun ex t s' => (∀ id, ex ≠ .exit id) ∧ ∃ s'', finish C f fn 0 t s' = some (v, s'') ∧ v.refs = 0) : Ev C prim f args s v s := by
  obtain ⟨N, ⟨e, t, s1⟩, h1, h2, s'', h3, h4⟩ := h
  refine ⟨N + 1, fun n hn => ?_⟩
  obtain ⟨n, rfl⟩ : ∃ n', n = n' + 1 := ⟨n - 1, by omega⟩
  simp only [callE, hp, hf, hb, hpu, h0]
  have : callPure C (callE C prim n) n f fn c args = some v := by
    unfold callPure
    rw [h1 n (by omega)]
    cases e with
    | exit id => exact (h2 id rfl).elim
    | normal => simp only [] at h3 ⊢; rw [h3]; simp [h4]
    | ret => simp only [] at h3 ⊢; rw [h3]; simp [h4]
  simp [this]

theorem Ev.full {f : FuncId} {fn : Func} {c : Code} {args : List EV} {s : St} {v : EV} {s' : St} (hp : C.prim f = none) (hf : C.fn f = some fn) (hb : fn.body = some c) (hpu : (C.pure f && Nat.beq (refsL args) 0) = false)
    (h : Wx C prim f s.h.length c (tmNew args (max args.length fn.ntmps)) s fun ex t s1 => (∀ id, ex ≠ .exit id) ∧ finish C f fn s.h.length t s1 = some (v, s')) : Ev C prim f args s v s' := by
  obtain ⟨N, ⟨e, t, s1⟩, h1, h2, h3⟩ := h
  refine ⟨N + 1, fun n hn => ?_⟩
  obtain ⟨n, rfl⟩ : ∃ n', n = n' + 1 := ⟨n - 1, by omega⟩
  simp only [callE, hp, hf, hb, hpu, Bool.false_eq_true, if_false]
  unfold callFull
  rw [h1 n (by omega)]
  cases e with
  | exit id => exact (h2 id rfl).elim
  | normal => exact h3
  | ret => exact h3
end
end Go.Ev
