/- Regions that draw their order (2): what comes ahead, counting, and the run in the text's order. -/
import Derived.Test.YtnnebeidpkaobaaGreatDoorEvDraw1
set_option linter.unusedVariables false
set_option linter.unusedSimpArgs false
set_option linter.unusedSectionVars false
namespace Go.Ev
open Go
set_option linter.unusedSectionVars false
set_option linter.unusedVariables false

theorem anyBind_eq (e : Edge) : Region.binds .any e = anyBind e := by
  unfold Region.binds anyBind
  cases e.ground <;> rfl

/-- The mask of one operation over those of the operations ahead of it. -/
def maskOf (acc : List Nat) (o : Oper) : Nat := o.after.toList.foldl (fun m e => if anyBind e then Nat.lor m (Nat.lor (Nat.pow 2 e.on) ((lget acc e.on).getD 0)) else m) 0

theorem masks_eq : ∀ (ops : List Oper) (acc : List Nat), ∃ l, masks ops acc = acc ++ l ∧ l.length = ops.length ∧ ∀ (j : Nat) (o : Oper), ops[j]? = some o → l[j]? = some (maskOf (acc ++ l.take j) o)
  | [], acc => ⟨[], by simp [masks], rfl, fun j o h => by simp at h⟩
  | o :: os, acc => by
    obtain ⟨l, h1, h2, h3⟩ := masks_eq os (acc ++ [maskOf acc o])
    refine ⟨maskOf acc o :: l, ?_, by simp [h2], fun j o' hj => ?_⟩
    · show masks os (acc ++ [maskOf acc o]) = _
      rw [h1]; simp
    · cases j with
      | zero => simp at hj; subst hj; simp
      | succ j =>
        simp at hj
        have := h3 j o' hj
        simpa using this

theorem foldl_bit (acc : List Nat) (i : Nat) : ∀ (es : List Edge) (m : Nat), Nat.testBit (es.foldl (fun m e => if anyBind e then Nat.lor m (Nat.lor (Nat.pow 2 e.on) ((lget acc e.on).getD 0)) else m) m) i = true →
    Nat.testBit m i = true ∨ ∃ e ∈ es, anyBind e = true ∧ (i = e.on ∨ Nat.testBit ((lget acc e.on).getD 0) i = true)
  | [], m, h => .inl h
  | e :: es, m, h => by
    simp only [List.foldl_cons] at h
    rcases foldl_bit acc i es _ h with h1 | ⟨e', h1, h2⟩
    · split at h1
      · rename_i hb
        have hor : ∀ a b : Nat, Nat.lor a b = a ||| b := fun _ _ => rfl
        rw [hor, hor, Nat.testBit_or, Nat.testBit_or] at h1
        simp only [Bool.or_eq_true] at h1
        rcases h1 with h1 | h1 | h1
        · exact .inl h1
        · have : Nat.pow 2 e.on = 2 ^ e.on := rfl
          rw [this, Nat.testBit_two_pow] at h1
          exact .inr ⟨e, by simp, hb, .inl (by simp at h1; exact h1.symm)⟩
        · exact .inr ⟨e, by simp, hb, .inr h1⟩
      · exact .inl h1
    · exact .inr ⟨e', by simp [h1], h2⟩

/-- What is ahead is listed, where a listed operation's edges are. -/
theorem ahead_listed {ops : List Oper} (hback : ∀ (j : Nat) (o : Oper), ops[j]? = some o → ∀ e ∈ o.after.toList, anyBind e = true → e.on < j) {L : Nat → Bool}
    (hcl : ∀ (j : Nat) (o : Oper), ops[j]? = some o → L j = true → ∀ e ∈ o.after.toList, anyBind e = true → L e.on = true) :
    ∀ (j : Nat) (o : Oper), ops[j]? = some o → (∀ e ∈ o.after.toList, anyBind e = true → L e.on = true) → ∀ i, ahead (masks ops []) i j = true → L i = true := by
  obtain ⟨l, h1, h2, h3⟩ := masks_eq ops []
  simp only [List.nil_append] at h1 h3
  rw [h1]
  intro j
  induction j using Nat.strongRecOn with
  | _ j ih =>
    intro o ho hd i hi
    unfold ahead at hi
    rw [lget_eq, h3 j o ho] at hi
    simp only [] at hi
    rcases foldl_bit _ i _ _ hi with h | ⟨e, he, hb, h | h⟩
    · simp at h
    · rw [h]; exact hd e he hb
    · have hlt := hback j o ho e he hb
      have hon := hd e he hb
      rw [lget_eq, List.getElem?_take, if_pos hlt] at h
      have hl : e.on < ops.length := by have := (List.getElem?_eq_some_iff.1 ho).1; omega
      refine ih e.on hlt ops[e.on] (List.getElem?_eq_getElem hl) (fun e' he' hb' => hcl e.on _ (List.getElem?_eq_getElem hl) hon e' he' hb') i ?_
      unfold ahead
      rw [lget_eq]
      split
      · rename_i m hm; rw [hm] at h; simpa using h
      · rename_i hm; rw [hm] at h; simp at h

/- Counting. -/

def cnt (p : Nat → Bool) : Nat → Nat
  | 0 => 0
  | k + 1 => cnt p k + if p k then 1 else 0

theorem cnt_congr {p q : Nat → Bool} : ∀ {n : Nat}, (∀ i, i < n → p i = q i) → cnt p n = cnt q n
  | 0, _ => rfl
  | n + 1, h => by simp only [cnt]; rw [cnt_congr (n := n) fun i hi => h i (by omega), h n (by omega)]

theorem cnt_le {p q : Nat → Bool} : ∀ {n : Nat}, (∀ i, i < n → p i = true → q i = true) → cnt p n ≤ cnt q n
  | 0, _ => Nat.le_refl _
  | n + 1, h => by
    simp only [cnt]
    have := cnt_le (n := n) fun i hi => h i (by omega)
    have := h n (by omega)
    cases hp : p n <;> cases hq : q n <;> simp_all <;> omega

theorem cnt_flip {p q : Nat → Bool} {j : Nat} (hne : ∀ i, i ≠ j → p i = q i) (hp : p j = false) (hq : q j = true) : ∀ {n : Nat}, j < n → cnt q n = cnt p n + 1
  | 0, h => by omega
  | n + 1, h => by
    simp only [cnt]
    by_cases e : j = n
    · subst e
      rw [hp, hq, cnt_congr (q := q) fun i hi => hne i (by omega)]
      simp
    · have := cnt_flip hne hp hq (n := n) (by omega)
      rw [this, hne n (fun z => e z.symm)]
      omega

theorem cnt_stop {p : Nat → Bool} {j : Nat} : ∀ {n : Nat}, j ≤ n → (∀ i, j ≤ i → i < n → p i = false) → cnt p n = cnt p j
  | 0, h, _ => by rw [show j = 0 by omega]
  | n + 1, h, hp => by
    by_cases e : j = n + 1
    · rw [e]
    · simp only [cnt]
      rw [hp n (by omega) (by omega), cnt_stop (n := n) (by omega) fun i h1 h2 => hp i h1 (by omega)]
      simp

theorem cnt_zero {p : Nat → Bool} : ∀ {n : Nat}, cnt p n = 0 → ∀ i, i < n → p i = false
  | 0, _, i, h => by omega
  | n + 1, h, i, hi => by
    simp only [cnt] at h
    by_cases e : i = n
    · subst e; cases hp : p i <;> simp_all
    · exact cnt_zero (n := n) (by omega) i (by omega)

theorem cnt_filter (p q : Nat → Bool) : ∀ n, (((List.range n).filter p).filter q).length = cnt (fun i => p i && q i) n
  | 0 => rfl
  | n + 1 => by
    rw [List.range_succ, List.filter_append, List.filter_append, List.length_append, cnt_filter p q n, cnt]
    cases hp : p n <;> cases hq : q n <;> simp [hp, hq]

/- The run in the text's order. -/

structure Pt where
  tm : Tm
  v : EV
  k : Nat
  n : Nat

section
variable (C : Ctx) (call : CallE) (f rid : Nat) (ops : List Oper)

/-- What one operation did. -/
inductive OpCase (Hs : List St) (rds : List Rd) (S0 : St) (len0 i : Nat) (o : Oper) (p : Pt) : Prop
  | alloc (t : TypeId) (z : EV) (ho : o.op = .alloc t) (hz : (C.ti t).bind zeroE = some z) (hv : p.v = .ptr p.n 0 0) (hb : S0.h[p.n]? = some ⟨0, false, false, z.cells⟩) (hl : len0 ≤ p.n)
  | skip (ha : isAlloc o = false) (hw : wantedE ops p.tm o = some false) (hv : p.v = undefE) (hh : isHeavy (C.mutated f rid) i o = true → Hs[p.k + 1]? = Hs[p.k]?)
  | heavy (ha : isAlloc o = false) (hw : wantedE ops p.tm o = some true) (s s' : St) (hs : Hs[p.k]? = some s) (hop : opE C call f rid i o p.tm s = some (p.v, s')) (hh : isHeavy (C.mutated f rid) i o = true) (hs' : Hs[p.k + 1]? = some s')
  | light (ha : isAlloc o = false) (hw : wantedE ops p.tm o = some true) (s s' : St) (hs : Hs[p.k]? = some s) (hop : opE C call f rid i o p.tm s = some (p.v, s')) (hh : isHeavy (C.mutated f rid) i o = false) (hl : lightOk C p.tm o = true)
      (hr : isRead o = true → (⟨i, o, p.tm, p.v⟩ : Rd) ∈ rds)

def Next1 (i : Nat) (o : Oper) (p q : Pt) : Prop :=
  q.tm = putE p.tm o.dst p.v ∧ q.k = p.k + (if isHeavy (C.mutated f rid) i o then 1 else 0) ∧ q.n = p.n + (if isAlloc o then 1 else 0)

theorem preAlloc_ext : ∀ {os : List Oper} {s s' : St}, preAlloc C os s = some s' → ∃ zs, s'.h = s.h ++ zs ∧ s'.keep = s.keep ∧ ∀ z ∈ zs, ∃ t e, (C.ti t).bind zeroE = some e ∧ z = ⟨0, false, false, e.cells⟩
  | [], s, s', h => by simp only [preAlloc, Option.some.injEq] at h; subst h; exact ⟨[], by simp, rfl, by simp⟩
  | o :: os, s, s', h => by
    unfold preAlloc at h
    split at h
    · rename_i t ho
      split at h
      · rename_i z hz
        obtain ⟨zs, h1, h2, h3⟩ := preAlloc_ext h
        refine ⟨⟨0, false, false, z.cells⟩ :: zs, by rw [h1]; simp [newBlk], h2, fun y hy => ?_⟩
        simp only [List.mem_cons] at hy
        rcases hy with rfl | hy
        · exact ⟨t, z, hz, rfl⟩
        · exact h3 y hy
      · cases h
    · exact preAlloc_ext h

theorem runDraw_trace {S0 : St} {len0 : Nat} {tm' : Tm} {sall : List St} {rds : List Rd} :
    ∀ (rest : List Oper) (i n : Nat) (tm : Tm) (s : St) (hs : List St) (rs : List Rd) (s1 : St), runDraw C call f rid ops i n rest tm s hs rs = some (tm', sall, rds) → preAlloc C rest s1 = some S0 → s1.h.length = n → len0 ≤ n →
      ∃ later, sall.reverse = hs.reverse ++ s :: later ∧ (∃ rnew, rds = rnew ++ rs) ∧
      ∃ F : Nat → Pt, (F i).tm = tm ∧ (F i).k = hs.length ∧ (F i).n = n ∧ (F (i + rest.length)).tm = tm' ∧ hs.length + 1 + later.length = (F (i + rest.length)).k + 1 ∧
        ∀ (j : Nat) (o : Oper), rest[j]? = some o → OpCase C call f rid ops sall.reverse rds S0 len0 (i + j) o (F (i + j)) ∧ Next1 C f rid (i + j) o (F (i + j)) (F (i + j + 1)) := by
  intro rest
  induction rest with
  | nil =>
    intro i n tm s hs rs s1 h hp hn hl
    simp only [runDraw, Option.some.injEq, Prod.mk.injEq] at h
    obtain ⟨rfl, rfl, rfl⟩ := h
    exact ⟨[], by simp, ⟨[], rfl⟩, fun _ => ⟨tm, undefE, hs.length, n⟩, rfl, rfl, rfl, rfl, by simp, fun j o h => by simp at h⟩
  | cons o rest ih =>
    intro i n tm s hs rs s1 h hp hn hl
    -- what the rest did, with this operation ahead of it
    have fin : ∀ (v : EV) (n2 : Nat) (s2 : St) (hs2 : List St) (rs2 : List Rd) (s3 : St), runDraw C call f rid ops (i + 1) n2 rest (putE tm o.dst v) s2 hs2 rs2 = some (tm', sall, rds) → preAlloc C rest s3 = some S0 → s3.h.length = n2 → len0 ≤ n2 →
        n2 = n + (if isAlloc o then 1 else 0) → hs2.length = hs.length + (if isHeavy (C.mutated f rid) i o then 1 else 0) → (∃ mid, hs2.reverse ++ [s2] = hs.reverse ++ s :: mid) → (∃ rn, rs2 = rn ++ rs) →
        ((∀ (k : Nat) (S : St), (hs2.reverse ++ [s2])[k]? = some S → sall.reverse[k]? = some S) → (∀ r ∈ rs2, r ∈ rds) → OpCase C call f rid ops sall.reverse rds S0 len0 i o ⟨tm, v, hs.length, n⟩) →
        ∃ later, sall.reverse = hs.reverse ++ s :: later ∧ (∃ rnew, rds = rnew ++ rs) ∧
        ∃ F : Nat → Pt, (F i).tm = tm ∧ (F i).k = hs.length ∧ (F i).n = n ∧ (F (i + (rest.length + 1))).tm = tm' ∧ hs.length + 1 + later.length = (F (i + (rest.length + 1))).k + 1 ∧
          ∀ (j : Nat) (o' : Oper), (o :: rest)[j]? = some o' → OpCase C call f rid ops sall.reverse rds S0 len0 (i + j) o' (F (i + j)) ∧ Next1 C f rid (i + j) o' (F (i + j)) (F (i + j + 1)) := by
      intro v n2 s2 hs2 rs2 s3 h1 h2 h3 h4 h5 h6 h7 h8 h9
      obtain ⟨later, g1, ⟨rnew, g2⟩, F, f1, f2, f3, f4, f5, f6⟩ := ih (i + 1) n2 _ s2 hs2 rs2 s3 h1 h2 h3 h4
      obtain ⟨mid, hm⟩ := h7
      obtain ⟨rn, hrn⟩ := h8
      have hpre : sall.reverse = (hs2.reverse ++ [s2]) ++ later := by rw [g1]; simp
      have hcase := h9 (fun k S hk => by
        rw [hpre, List.getElem?_append_left (List.getElem?_eq_some_iff.1 hk).1]; exact hk) (fun r hr => by rw [g2]; simp [hr])
      refine ⟨mid ++ later, by rw [hpre, hm]; simp, ⟨rnew ++ rn, by rw [g2, hrn]; simp⟩, fun m => if m = i then ⟨tm, v, hs.length, n⟩ else F m, by simp, by simp, by simp, ?_, ?_, ?_⟩
      · simp only []
        rw [if_neg (by omega), show i + (rest.length + 1) = i + 1 + rest.length by omega]; exact f4
      · simp only []
        rw [if_neg (by omega), show i + (rest.length + 1) = i + 1 + rest.length by omega]
        have := congrArg List.length hm
        simp at this
        simp only [List.length_append]
        omega
      · intro j o' hj
        cases j with
        | zero =>
          simp at hj; subst hj
          simp only [Nat.add_zero, if_pos]
          refine ⟨hcase, ?_⟩
          rw [if_neg (by omega)]
          exact ⟨f1, by rw [f2, h6], by rw [f3, h5]⟩
        | succ j =>
          simp at hj
          have := f6 j o' hj
          simp only [show ¬ (i + (j + 1) = i) by omega, show ¬ (i + (j + 1) + 1 = i) by omega, if_false]
          rw [show i + (j + 1) = i + 1 + j by omega]
          exact this
    have hpa : isAlloc o = false → preAlloc C rest s1 = some S0 := by
      intro ha
      unfold preAlloc at hp
      unfold isAlloc at ha
      split at hp
      · rename_i t ho; rw [ho] at ha; cases ha
      · exact hp
    rw [List.length_cons]
    simp only [runDraw] at h
    split at h
    · rename_i ha
      have hah : isHeavy (C.mutated f rid) i o = false := by
        unfold isAlloc at ha; unfold isHeavy
        split at ha
        · rename_i t ho; rw [ho]
        · cases ha
      unfold preAlloc at hp
      have ha' := ha
      unfold isAlloc at ha'
      split at hp
      · rename_i t ho
        split at hp
        · rename_i z hz
          refine fin (.ptr n 0 0) (n + 1) s hs rs _ h hp (by simp [newBlk, hn]) (by omega) (by simp [ha]) (by simp [hah]) ⟨[], by simp⟩ ⟨[], rfl⟩ fun _ _ => ?_
          obtain ⟨zs, e1, e2, e3⟩ := preAlloc_ext C hp
          refine .alloc t z ho hz rfl ?_ hl
          rw [e1]
          simp [newBlk, hn]
        · cases hp
      · rename_i hno
        split at ha'
        · rename_i t ho; exact (hno t ho).elim
        · cases ha'
    · rename_i ha
      have ha : isAlloc o = false := by simpa using ha
      split at h
      · rename_i hw
        split at h
        · rename_i v s' hop
          split at h
          · split at h
            · rename_i hh
              refine fin v n s' (s :: hs) rs s1 h (hpa ha) hn hl (by simp [ha]) (by simp [hh]) ⟨[s'], by simp⟩ ⟨[], rfl⟩ fun hk _ => ?_
              exact .heavy ha hw s s' (hk _ _ (by simp)) hop hh (hk _ _ (by simp))
            · rename_i hh
              split at h
              · rename_i hlo
                have hh : isHeavy (C.mutated f rid) i o = false := by simpa using hh
                refine fin v n s hs _ s1 h (hpa ha) hn hl (by simp [ha]) (by simp [hh]) ⟨[], by simp⟩ (by split; exact ⟨[_], rfl⟩; exact ⟨[], rfl⟩) fun hk hr => ?_
                exact .light ha hw s s' (hk _ _ (by simp)) hop hh hlo fun hrd => hr _ (by simp [hrd])
              · cases h
          · cases h
        · cases h
      · rename_i hw
        split at h
        · rename_i hh
          refine fin undefE n s (s :: hs) rs s1 h (hpa ha) hn hl (by simp [ha]) (by simp [hh]) ⟨[s], by simp⟩ ⟨[], rfl⟩ fun hk _ => ?_
          exact .skip ha hw rfl fun _ => by rw [hk hs.length s (by simp), hk (hs.length + 1) s (by simp)]
        · rename_i hh
          refine fin undefE n s hs rs s1 h (hpa ha) hn hl (by simp [ha]) (by simp [hh]) ⟨[], by simp⟩ ⟨[], rfl⟩ fun hk _ => ?_
          exact .skip ha hw rfl fun h => (hh h).elim
      · cases h
end
end Go.Ev
