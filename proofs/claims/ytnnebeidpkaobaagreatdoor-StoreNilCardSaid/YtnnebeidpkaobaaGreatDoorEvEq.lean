/- '==' of structs of plain parts. -/
import Derived.Test.YtnnebeidpkaobaaGreatDoorEvExec2
import Derived.Laws.StructEq
import Derived.ChangeKeysEq
set_option linter.unusedVariables false
set_option linter.unusedSimpArgs false
set_option linter.unusedSectionVars false
namespace Go.Ev
open Go
set_option linter.unusedSectionVars false
set_option linter.unusedVariables false

def eqFieldsT (P : Program) (g : TypeId → Option (List CK)) : List Field → Nat → Nat → Option (List CK)
  | [], off, total => if off = total then some [] else none
  | f :: fs, off, total =>
    if f.name = "_" then none else
    if f.offset = off then
      match g f.type, P.info? f.type with
      | some ks, some j => if ks.length = j.size then (eqFieldsT P g fs (off + j.size) total).map (ks ++ ·) else none
      | _, _ => none
    else none

/-- Structs of bools, integers, strings, and such structs: the kinds of their cells. -/
def eqTy (P : Program) : Nat → TypeId → Option (List CK)
  | 0, _ => none
  | d + 1, t => match P.underlying t, P.info? t with
    | some desc, some i => match desc with
      | .bool => if i.size = 1 then some [.bool] else none
      | .int _ => if i.size = 1 then some [.int] else none
      | .string => if i.size = 1 then some [.str] else none
      | .struct fs => if P.stoodInHeld t then none else eqFieldsT P (eqTy P d) fs.toList 0 i.size
      | .array n e => match eqTy P d e, P.info? e with
        | some ks, some j => if ks.length = j.size ∧ i.size = n * j.size then some (List.replicate n ks).flatten else none
        | _, _ => none
      | _ => none
    | _, _ => none

section
variable {P : Program} {Cm : Com} {β : Bm}

theorem cellsEq_append : ∀ {ks ls : List CK} {a c : List EV} {r : Bool}, cellsEq (ks ++ ls) a c = some r → ∃ x y, cellsEq ks (a.take ks.length) (c.take ks.length) = some x ∧ cellsEq ls (a.drop ks.length) (c.drop ks.length) = some y ∧ r = (x && y)
  | [], ls, a, c, r, h => ⟨true, r, by simp [cellsEq], by simpa using h, by simp⟩
  | k :: ks, ls, a :: as, c :: cs, r, h => by
    simp only [List.cons_append, cellsEq, List.length_cons, List.take_succ_cons, List.drop_succ_cons] at h ⊢
    split at h
    · rename_i x y hx hy
      cases h
      obtain ⟨x', y', h1, h2, rfl⟩ := cellsEq_append hy
      exact ⟨x && x', y', by rw [hx, h1], h2, by rw [Bool.and_assoc]⟩
    · cases h
  | k :: ks, ls, [], c, r, h => by simp [cellsEq] at h
  | k :: ks, ls, a :: as, [], r, h => by simp [cellsEq] at h

theorem cellsEq_nil {a c : List EV} {r : Bool} (h : cellsEq [] a c = some r) : r = true := by
  match a, c with
  | [], [] => simp [cellsEq] at h; exact h
  | [], _ :: _ => simp [cellsEq] at h
  | _ :: _, _ => simp [cellsEq] at h

theorem cellsEq_one {k : CK} {a b : List EV} {r : Bool} (h : cellsEq [k] a b = some r) : ∃ x y, a = [x] ∧ b = [y] ∧ cellEq k x y = some r := by
  match a, b with
  | [x], [y] =>
    simp only [cellsEq] at h
    cases hq : cellEq k x y with
    | none => rw [hq] at h; cases h
    | some q => rw [hq] at h; simp at h; subst h; exact ⟨x, y, rfl, rfl, hq⟩
  | [], _ => simp [cellsEq] at h
  | [x], [] => simp [cellsEq] at h
  | x :: y :: l, [] => simp [cellsEq] at h
  | [x], a :: b :: l => simp only [cellsEq] at h; split at h <;> simp_all
  | x :: y :: l, b :: m => simp only [cellsEq] at h; split at h <;> simp_all

theorem one_cell {x : EV} {X : Array Value} {off : Nat} (h : RepL Cm β [x] ((X.toList.drop off).take 1)) : ∃ V, X[off]? = some V ∧ Rep Cm β x V := by
  obtain ⟨V, h1, h2⟩ := repl_one rfl h
  refine ⟨V, ?_, h2⟩
  have : ((X.toList.drop off).take 1)[0]? = some V := by rw [h1]; rfl
  rw [List.getElem?_take, if_pos (by omega), List.getElem?_drop] at this
  simpa using this

theorem cellEq_bool {x y : EV} {r : Bool} (h : cellEq .bool x y = some r) : ∃ a b, x = .bool a ∧ y = .bool b ∧ r = (a == b) := by
  cases x <;> first | (simp [cellEq] at h; done) | skip
  cases y <;> first | (simp [cellEq] at h; done) | skip
  simp only [cellEq, Option.some.injEq] at h
  exact ⟨_, _, rfl, rfl, h.symm⟩

theorem cellEq_int {x y : EV} {r : Bool} (h : cellEq .int x y = some r) : ∃ k a b, x = .int k a ∧ y = .int k b ∧ r = (a == b) := by
  cases x <;> first | (simp [cellEq] at h; done) | skip
  cases y <;> first | (simp [cellEq] at h; done) | skip
  simp only [cellEq] at h
  split at h
  · rename_i hk; subst hk; cases h; exact ⟨_, _, _, rfl, rfl, rfl⟩
  · cases h

theorem cellEq_str {x y : EV} {r : Bool} (h : cellEq .str x y = some r) : ∃ a b, x = .str a ∧ y = .str b ∧ r = (a.toList == b.toList) := by
  cases x <;> first | (simp [cellEq] at h; done) | skip
  cases y <;> first | (simp [cellEq] at h; done) | skip
  simp only [cellEq, Option.some.injEq] at h
  exact ⟨_, _, rfl, rfl, h.symm⟩

/-- What the check says of a type. -/
def EqOk (P : Program) (Cm : Com) (β : Bm) (w : World) (D : Nat) (t : TypeId) (ks : List CK) : Prop :=
  (∀ i : TypeInfo, P.info? t = some i → ks.length = i.size) ∧
  ∀ (xs ys : List EV) (X Y : Array Value) (off : Nat) (r : Bool), off + ks.length ≤ X.size → off + ks.length ≤ Y.size →
    RepL Cm β xs ((X.toList.drop off).take ks.length) → RepL Cm β ys ((Y.toList.drop off).take ks.length) → cellsEq ks xs ys = some r →
    ∃ A B, (part t X off).run P w = .ok A w ∧ (part t Y off).run P w = .ok B w ∧ (Op.equalIn D t A B).run P w = .ok r w

theorem eqFields_sound (w : World) {D : Nat} {g : TypeId → Option (List CK)} (hg : ∀ t ks, g t = some ks → EqOk P Cm β w D t ks) :
    ∀ (fs : List Field) (off total : Nat) (ks : List CK), eqFieldsT P g fs off total = some ks → off + ks.length = total ∧
      ∀ (xs ys : List EV) (X Y : Array Value) (r : Bool), total ≤ X.size → total ≤ Y.size → RepL Cm β xs ((X.toList.drop off).take ks.length) → RepL Cm β ys ((Y.toList.drop off).take ks.length) → cellsEq ks xs ys = some r →
        (Op.eqFields D X Y fs).run P w = .ok r w
  | [], off, total, ks, h => by
    simp only [eqFieldsT] at h
    split at h
    · rename_i he
      cases h
      refine ⟨by simpa using he, fun xs ys X Y r _ _ _ _ hc => ?_⟩
      unfold cellsEq at hc
      split at hc
      · cases hc; simp [Op.eqFields]
      · rename_i heq _ _; cases heq
      · cases hc
    · cases h
  | f :: fs, off, total, ks, h => by
    simp only [eqFieldsT] at h
    split at h
    · cases h
    · rename_i hname
      split at h
      · rename_i hoff
        split at h
        · rename_i k1 j hk1 hj
          split at h
          · rename_i hl
            simp only [Option.map_eq_some_iff] at h
            obtain ⟨k2, hk2, rfl⟩ := h
            obtain ⟨e1, e2⟩ := eqFields_sound w hg fs _ _ _ hk2
            obtain ⟨g1, g2⟩ := hg _ _ hk1
            refine ⟨by rw [List.length_append]; omega, fun xs ys X Y r hX hY hx hy hc => ?_⟩
            obtain ⟨r1, r2, c1, c2, rfl⟩ := cellsEq_append hc
            have hxt := hx.take k1.length
            have hyt := hy.take k1.length
            have hxd := hx.drop k1.length
            have hyd := hy.drop k1.length
            rw [List.take_take, List.length_append, show min k1.length (k1.length + k2.length) = k1.length by omega] at hxt hyt
            rw [List.drop_take, List.drop_drop, List.length_append, show k1.length + k2.length - k1.length = k2.length by omega, hl] at hxd hyd
            obtain ⟨A, B, p1, p2, p3⟩ := g2 _ _ X Y off r1 (by omega) (by omega) hxt hyt c1
            rw [hl] at c2
            have h2 := e2 _ _ X Y r2 hX hY hxd hyd c2
            simp only [Op.eqFields]
            rw [if_pos hname, hoff]
            simp only [Sem.run_bind, p1, p2, p3, Result.andThen_ok, Sem.run_ite]
            cases r1 with
            | false => simp
            | true => simpa using h2
          · cases h
        · cases h
      · cases h

theorem eqItems_sound (w : World) {D : Nat} {e : TypeId} {ks : List CK} (hg : EqOk P Cm β w D e ks) {X Y : Array Value} : ∀ (m i0 : Nat) (xs ys : List EV) (r : Bool), (i0 + m) * ks.length ≤ X.size → (i0 + m) * ks.length ≤ Y.size →
    RepL Cm β xs ((X.toList.drop (i0 * ks.length)).take (m * ks.length)) → RepL Cm β ys ((Y.toList.drop (i0 * ks.length)).take (m * ks.length)) → cellsEq (List.replicate m ks).flatten xs ys = some r →
    (Op.eqItems D e ks.length X Y (List.range' i0 m)).run P w = .ok r w
  | 0, i0, xs, ys, r, hX, hY, hx, hy, hc => by
    simp only [List.replicate_zero, List.flatten_nil] at hc
    rw [cellsEq_nil hc]
    simp [Op.eqItems]
  | m + 1, i0, xs, ys, r, hX, hY, hx, hy, hc => by
    rw [List.replicate_succ, List.flatten_cons] at hc
    obtain ⟨r1, r2, c1, c2, rfl⟩ := cellsEq_append hc
    have hmul : (i0 + (m + 1)) * ks.length = i0 * ks.length + ks.length + m * ks.length := by rw [Nat.add_mul, Nat.add_mul, Nat.one_mul]; omega
    have hmul2 : (i0 + 1 + m) * ks.length = i0 * ks.length + ks.length + m * ks.length := by rw [Nat.add_mul, Nat.add_mul, Nat.one_mul]
    have hmul3 : (m + 1) * ks.length = ks.length + m * ks.length := by rw [Nat.add_mul, Nat.one_mul]; omega
    have hmul4 : (i0 + 1) * ks.length = i0 * ks.length + ks.length := by rw [Nat.add_mul, Nat.one_mul]
    have hxt := hx.take ks.length
    have hyt := hy.take ks.length
    have hxd := hx.drop ks.length
    have hyd := hy.drop ks.length
    rw [List.take_take, show min ks.length ((m + 1) * ks.length) = ks.length by omega] at hxt hyt
    rw [List.drop_take, List.drop_drop, show (m + 1) * ks.length - ks.length = m * ks.length by omega, ← hmul4] at hxd hyd
    obtain ⟨A, B, p1, p2, p3⟩ := hg.2 _ _ X Y (i0 * ks.length) r1 (by omega) (by omega) hxt hyt c1
    have h2 := eqItems_sound w hg m (i0 + 1) _ _ r2 (by omega) (by omega) hxd hyd c2
    rw [List.range'_succ]
    simp only [Op.eqItems, Sem.run_bind, p1, p2, p3, Result.andThen_ok, Sem.run_ite]
    cases r1 with
    | false => simp
    | true => simpa using h2

theorem eqTy_sound (w : World) : ∀ (d D : Nat) (t : TypeId) (ks : List CK), d ≤ D → eqTy P d t = some ks → EqOk P Cm β w D t ks := by
  intro d
  induction d with
  | zero => intro D t ks _ h; simp [eqTy] at h
  | succ d ih =>
    intro D t ks hD h
    obtain ⟨D, rfl⟩ : ∃ D', D = D' + 1 := ⟨D - 1, by omega⟩
    unfold eqTy at h
    split at h
    · rename_i desc i hu hi
      have hw : (underlying t).run P w = .ok desc w := by simp [underlying, hu]
      have hs : (sizeOf t).run P w = .ok i.size w := by simp [sizeOf, typeInfo, hi]
      have hpart : (isAgg t).run P w = .ok false w → ∀ (X : Array Value) (off : Nat) (V : Value), X[off]? = some V → (part t X off).run P w = .ok V w := fun ha X off V hV => by
        unfold part
        simp only [Sem.run_bind, ha, Result.andThen_ok, Bool.false_eq_true, if_false, hV, Sem.run_pure]
      have scalar : ∀ (k : CK), (isAgg t).run P w = .ok false w → i.size = 1 → ks = [k] → (∀ (x y : EV) (A B : Value) (r : Bool), Rep Cm β x A → Rep Cm β y B → cellEq k x y = some r → (Op.equalIn (D + 1) t A B).run P w = .ok r w) → EqOk P Cm β w (D + 1) t ks := by
        intro k ha h1 hks heq
        subst hks
        refine ⟨fun i' hi' => by rw [hi] at hi'; cases hi'; simp [h1], fun xs ys X Y off r hX hY hx hy hc => ?_⟩
        obtain ⟨x, y, rfl, rfl, hc1⟩ := cellsEq_one hc
        obtain ⟨A, hA, hxA⟩ := one_cell hx
        obtain ⟨B, hB, hyB⟩ := one_cell hy
        exact ⟨A, B, hpart ha X off A hA, hpart ha Y off B hB, heq x y A B r hxA hyB hc1⟩
      split at h
      · split at h
        · rename_i h1
          cases h
          refine scalar .bool (by simp [isAgg, hw]) h1 rfl fun x y A B r hx hy hc => ?_
          obtain ⟨a, b, rfl, rfl, rfl⟩ := cellEq_bool hc
          cases hx; cases hy; exact run_equalIn_bool' w D t _ _ hu
        · cases h
      · rename_i kk
        split at h
        · rename_i h1
          cases h
          refine scalar .int (by simp [isAgg, hw]) h1 rfl fun x y A B r hx hy hc => ?_
          obtain ⟨k, a, b, rfl, rfl, rfl⟩ := cellEq_int hc
          cases hx; cases hy; exact run_equalIn_int w D t _ kk _ _ hu
        · cases h
      · split at h
        · rename_i h1
          cases h
          refine scalar .str (by simp [isAgg, hw]) h1 rfl fun x y A B r hx hy hc => ?_
          obtain ⟨a, b, rfl, rfl, rfl⟩ := cellEq_str hc
          cases hx; cases hy; exact run_equalIn_string w D t _ _ hu
        · cases h
      · rename_i fs
        split at h
        · cases h
        · rename_i hst
          have hst : P.stoodInHeld t = false := by simpa using hst
          obtain ⟨e1, e2⟩ := eqFields_sound (Cm := Cm) (β := β) w (D := D) (fun t' ks' h' => ih D t' ks' (by omega) h') fs.toList 0 i.size ks h
          have hfo : P.fieldsOf t = fs := by unfold Program.fieldsOf; rw [hu]
          refine ⟨fun i' hi' => by rw [hi] at hi'; cases hi'; omega, fun xs ys X Y off r hX hY hx hy hc => ?_⟩
          have hp : ∀ Z : Array Value, (part t Z off).run P w = .ok (.agg (Z.extract off (off + i.size))) w := fun Z => by
            unfold part; simp [isAgg, hw, hs]
          refine ⟨_, _, hp X, hp Y, ?_⟩
          rw [run_equalIn_struct w D t _ _ (by rw [hfo]; exact hu) hst, hfo]
          have hext : ∀ Z : Array Value, (((Z.extract off (off + i.size)).toList.drop 0).take ks.length) = (Z.toList.drop off).take ks.length := fun Z => by
            rw [Array.toList_extract, List.extract_eq_take_drop, List.drop_zero, List.take_take, show min ks.length (off + i.size - off) = ks.length by omega]
          exact e2 xs ys _ _ r (by simp; omega) (by simp; omega) (by rw [hext]; exact hx) (by rw [hext]; exact hy) hc
      · rename_i n e
        split at h
        · rename_i ke j hke hj
          split at h
          · rename_i hcond
            obtain ⟨hl, hsz⟩ := hcond
            cases h
            have hg := ih D e ke (by omega) hke
            have hlen : (List.replicate n ke).flatten.length = i.size := by simp [hl, hsz]
            refine ⟨fun i' hi' => by rw [hi] at hi'; cases hi'; exact hlen, fun xs ys X Y off r hX hY hx hy hc => ?_⟩
            have hp : ∀ Z : Array Value, (part t Z off).run P w = .ok (.agg (Z.extract off (off + i.size))) w := fun Z => by
              unfold part; simp [isAgg, hw, hs]
            refine ⟨_, _, hp X, hp Y, ?_⟩
            rw [run_equalIn_array w D _ _ hu hj, show P.cellsOf e = ke.length by rw [hl]; unfold Program.cellsOf; rw [hj]; rfl, List.range_eq_range']
            have hn : n * ke.length = i.size := by rw [hl, hsz]
            rw [hlen] at hx hy hX hY
            have hext : ∀ Z : Array Value, ((Z.extract off (off + i.size)).toList.drop (0 * ke.length)).take (n * ke.length) = (Z.toList.drop off).take i.size := fun Z => by
              rw [Array.toList_extract, List.extract_eq_take_drop, Nat.zero_mul, List.drop_zero, List.take_take, hn, show min i.size (off + i.size - off) = i.size by omega]
            exact eqItems_sound w hg n 0 xs ys r (by rw [Nat.zero_add, hn]; simp; omega) (by rw [Nat.zero_add, hn]; simp; omega) (by rw [hext]; exact hx) (by rw [hext]; exact hy) hc
          · cases h
        · cases h
      · cases h
    · cases h

theorem eqFields_guard {g : TypeId → Option (List CK)} {q : TypeId → Bool} (hg : ∀ t ks, g t = some ks → q t = false) : ∀ (fs : List Field) (off total : Nat) (ks : List CK), eqFieldsT P g fs off total = some ks → ∀ f ∈ fs, q f.type = false
  | [], _, _, _, _, f, hf => by simp at hf
  | f0 :: fs, off, total, ks, h, f, hf => by
    simp only [eqFieldsT] at h
    split at h
    · cases h
    · split at h
      · split at h
        · rename_i k1 j hk1 hj
          split at h
          · simp only [Option.map_eq_some_iff] at h
            obtain ⟨k2, hk2, rfl⟩ := h
            simp only [List.mem_cons] at hf
            rcases hf with rfl | hf
            · exact hg _ _ hk1
            · exact eqFields_guard hg fs _ _ _ hk2 f hf
          · cases h
        · cases h
      · cases h

theorem eqTy_guard : ∀ (d D : Nat) (t : TypeId) (ks : List CK), d ≤ D → eqTy P d t = some ks → P.eqGuardType D t = false := by
  intro d
  induction d with
  | zero => intro D t ks _ h; simp [eqTy] at h
  | succ d ih =>
    intro D t ks hD h
    obtain ⟨D, rfl⟩ : ∃ D', D = D' + 1 := ⟨D - 1, by omega⟩
    unfold eqTy at h
    split at h
    · rename_i desc i hu hi
      unfold Program.eqGuardType
      rw [hu]
      split at h <;> first | rfl | skip
      · rename_i fs
        split at h
        · cases h
        · have := eqFields_guard (P := P) (q := P.eqGuardType D) (fun t' ks' h' => ih D t' ks' (by omega) h') _ _ _ _ h
          simp only []
          rw [Array.any_eq_false]
          intro k hk
          have := this fs[k] (by simp)
          simp [this]
      · split at h
        · rename_i ke j hke hj
          exact ih D _ ke (by omega) hke
        · cases h
      · cases h
    · cases h

theorem cellsEq_len : ∀ {ks : List CK} {a c : List EV} {r : Bool}, cellsEq ks a c = some r → a.length = ks.length ∧ c.length = ks.length
  | [], [], [], _, _ => ⟨rfl, rfl⟩
  | k :: ks, a :: as, c :: cs, r, h => by
    simp only [cellsEq] at h
    split at h
    · rename_i x y hx hy
      obtain ⟨h1, h2⟩ := cellsEq_len hy
      simp [h1, h2]
    · cases h
  | [], a :: as, _, _, h => by simp [cellsEq] at h
  | [], [], c :: cs, _, h => by simp [cellsEq] at h
  | k :: ks, [], _, _, h => by simp [cellsEq] at h
  | k :: ks, a :: as, [], _, h => by simp [cellsEq] at h

/-- What 'CtxOk' asks of equality. -/
theorem eq_ok (h20 : 20 ≤ P.depth) {t : TypeId} {fs : Array Field} (hu : P.underlying t = some (.struct fs)) {ks : List CK} (hks : eqTy P 20 t = some ks) (xs ys : List EV) (X Y : Array Value) (Cm : Com) (β : Bm) (b : Bool) (w : World)
    (hx : RepL Cm β xs X.toList) (hy : RepL Cm β ys Y.toList) (hc : cellsEq ks xs ys = some b) : P.eqGuardType P.depth t = false ∧ (Op.equal t (.agg X) (.agg Y)).run P w = .ok b w := by
  refine ⟨eqTy_guard 20 _ t ks h20 hks, ?_⟩
  obtain ⟨l1, l2⟩ := cellsEq_len hc
  have lx := hx.length; have ly := hy.length
  simp only [Array.length_toList] at lx ly
  have hfo : P.fieldsOf t = fs := by unfold Program.fieldsOf; rw [hu]
  unfold eqTy at hks
  split at hks
  · rename_i desc i hu' hi
    rw [hu] at hu'
    cases hu'
    simp only [] at hks
    split at hks
    · cases hks
    · rename_i hst
      have hst : P.stoodInHeld t = false := by simpa using hst
      obtain ⟨e1, e2⟩ := eqFields_sound (Cm := Cm) (β := β) w (D := 9999) (fun t' ks' h' => eqTy_sound w 19 9999 t' ks' (by omega) h') fs.toList 0 i.size ks hks
      unfold Op.equal
      rw [show Op.maxDepth = 9999 + 1 from rfl, run_equalIn_struct w 9999 t X Y (by rw [hfo]; exact hu) hst, hfo]
      have hfull : ∀ (Z : Array Value), ks.length = Z.size → ((Z.toList.drop 0).take ks.length) = Z.toList := fun Z hz => by
        rw [List.drop_zero, hz, ← Array.length_toList, List.take_length]
      exact e2 xs ys X Y b (by omega) (by omega) (by rw [hfull X (by omega)]; exact hx) (by rw [hfull Y (by omega)]; exact hy) hc
  · cases hks

/-- The same of arrays. -/
theorem eq_ok_array (h20 : 20 ≤ P.depth) {t e : TypeId} {n : Nat} (hu : P.underlying t = some (.array n e)) {ks : List CK} (hks : eqTy P 20 t = some ks) (xs ys : List EV) (X Y : Array Value) (Cm : Com) (β : Bm) (b : Bool) (w : World)
    (hx : RepL Cm β xs X.toList) (hy : RepL Cm β ys Y.toList) (hc : cellsEq ks xs ys = some b) : P.eqGuardType P.depth t = false ∧ (Op.equal t (.agg X) (.agg Y)).run P w = .ok b w := by
  refine ⟨eqTy_guard 20 _ t ks h20 hks, ?_⟩
  obtain ⟨l1, l2⟩ := cellsEq_len hc
  have lx := hx.length; have ly := hy.length
  simp only [Array.length_toList] at lx ly
  unfold eqTy at hks
  split at hks
  · rename_i desc i hu' hi
    rw [hu] at hu'
    cases hu'
    simp only [] at hks
    split at hks
    · rename_i ke j hke hj
      split at hks
      · rename_i hcond
        obtain ⟨hl, hsz⟩ := hcond
        cases hks
        have hg := eqTy_sound (Cm := Cm) (β := β) w 19 9999 e ke (by omega) hke
        have hlen : (List.replicate n ke).flatten.length = n * ke.length := by simp
        unfold Op.equal
        rw [show Op.maxDepth = 9999 + 1 from rfl, run_equalIn_array w 9999 _ _ hu hj, show P.cellsOf e = ke.length by rw [hl]; unfold Program.cellsOf; rw [hj]; rfl, List.range_eq_range']
        have hfull : ∀ (Z : Array Value), n * ke.length = Z.size → ((Z.toList.drop (0 * ke.length)).take (n * ke.length)) = Z.toList := fun Z hz => by
          rw [Nat.zero_mul, List.drop_zero, hz, ← Array.length_toList, List.take_length]
        exact eqItems_sound w hg n 0 xs ys b (by rw [Nat.zero_add]; omega) (by rw [Nat.zero_add]; omega) (by rw [hfull X (by omega)]; exact hx) (by rw [hfull Y (by omega)]; exact hy) hc
      · cases hks
    · cases hks
  · cases hks
end
end Go.Ev
