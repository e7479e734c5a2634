/- Regions that draw their order (5): all orders. -/
import Derived.Test.YtnnebeidpkaobaaGreatDoorEvDraw4
set_option linter.unusedVariables false
set_option linter.unusedSimpArgs false
set_option linter.unusedSectionVars false
namespace Go.Ev
open Go
set_option linter.unusedSectionVars false
set_option linter.unusedVariables false

/-- What is fixed of a drawn region. -/
structure DFix (P : Program) (C : Ctx) (call : CallE) (f rid : Nat) (ops : Array Oper) (Hs : List St) (rds : List Rd) (S0 : St) (len0 sz : Nat) (F : Nat → Pt) : Prop where
  ok : DrawOk (C.mutated f rid) ops.toList
  case : ∀ (j : Nat) (o : Oper), ops.toList[j]? = some o → OpCase C call f rid ops.toList Hs rds S0 len0 j o (F j)
  next : ∀ (j : Nat) (o : Oper), ops.toList[j]? = some o → Next1 C f rid j o (F j) (F (j + 1))
  k0 : (F 0).k = 0
  reads : ∀ r ∈ rds, ∀ (k : Nat) (S : St), Hs[k]? = some S → (window (C.mutated f rid) ops.toList (masks ops.toList []) r.idx).1 ≤ k → k ≤ (window (C.mutated f rid) ops.toList (masks ops.toList []) r.idx).2 →
    ∃ s3, opE C call f rid r.idx r.o r.tm S = some (r.v, s3)
  deep0 : (∃ d, Deep d (F 0).tm.t ∧ (F 0).tm.size ≤ 2 ^ d) ∧ (F 0).tm.size = sz

def hvy (C : Ctx) (f rid : Nat) (ops : Array Oper) (i : Nat) : Bool := match ops.toList[i]? with | some o => isHeavy (C.mutated f rid) i o | none => false

structure DInv (P : Program) (C : Ctx) (call : CallE) (f rid : Nat) (ops : Array Oper) (Hs : List St) (len0 sz : Nat) (F : Nat → Pt) (Cm0 : Com) (β0 : Bm) (s0 : St) (w0 : World) (D : List Deferred)
    (L : Nat → Bool) (Cm : Com) (β : Bm) (S : St) (a : Act) (w : World) : Prop where
  closed : ∀ (j : Nat) (o : Oper), ops.toList[j]? = some o → L j = true → ∀ e ∈ o.after.toList, anyBind e = true → L e.on = true
  hs : Hs[cnt (fun i => hvy C f rid ops i && L i) ops.size]? = some S
  inv : SInv Cm β S w
  step : Step Cm0 β0 s0 w0 Cm β S w
  tsz : a.tmps.size = sz
  fr : ∀ t, t < sz → Rep Cm β (curUp ops.toList F L t ops.size) (a.tmps.getD t undef)
  al : ∀ (j : Nat) (o : Oper) (t : TypeId), ops.toList[j]? = some o → o.op = .alloc t → L j = false → β[(F j).n]? = some none ∧ ∃ z, (C.ti t).bind zeroE = some z ∧ S.h[(F j).n]? = some ⟨0, false, false, z.cells⟩
  df : a.defers = D

section
variable {P : Program} {C : Ctx} {call : CallE} {f rid : Nat} {ops : Array Oper} {Hs : List St} {rds : List Rd} {S0 : St} {len0 sz : Nat} {F : Nat → Pt}
variable (hF : DFix P C call f rid ops Hs rds S0 len0 sz F)
include hF

theorem DFix.put (j : Nat) (o : Oper) (h : ops.toList[j]? = some o) : (F (j + 1)).tm = putE (F j).tm o.dst (F j).v := (hF.next j o h).1

theorem DFix.deep : ∀ j, j ≤ ops.toList.length → (∃ d, Deep d (F j).tm.t ∧ (F j).tm.size ≤ 2 ^ d) ∧ (F j).tm.size = sz := by
  intro j
  induction j with
  | zero => intro _; exact hF.deep0
  | succ j ih =>
    intro h
    obtain ⟨⟨d, h1, h2⟩, h3⟩ := ih (by omega)
    rw [hF.put j _ (List.getElem?_eq_getElem (by omega))]
    cases hd : (ops.toList[j]'(by omega)).dst with
    | none => exact ⟨⟨d, h1, h2⟩, h3⟩
    | some t =>
      simp only [putE]
      refine ⟨⟨d, ?_, by rw [tmSet_size]; exact h2⟩, by rw [tmSet_size]; exact h3⟩
      unfold tmSet; split
      · exact Deep.set _ _ h1
      · exact h1

theorem DFix.k : ∀ j, j ≤ ops.size → (F j).k = cnt (hvy C f rid ops) j := by
  intro j
  induction j with
  | zero => intro _; exact hF.k0
  | succ j ih =>
    intro h
    have hj : ops.toList[j]? = some (ops.toList[j]'(by simp; omega)) := List.getElem?_eq_getElem _
    rw [(hF.next j _ hj).2.1, ih (by omega), cnt]
    unfold hvy
    rw [hj]

theorem DFix.n_mono : ∀ (j i : Nat), i ≤ j → j ≤ ops.size → (F i).n ≤ (F j).n := by
  intro j
  induction j with
  | zero => intro i h _; rw [show i = 0 by omega]; exact Nat.le_refl _
  | succ j ih =>
    intro i h hj
    by_cases e : i = j + 1
    · rw [e]; exact Nat.le_refl _
    · have := ih i (by omega) (by omega)
      have hjj : ops.toList[j]? = some (ops.toList[j]'(by simp; omega)) := List.getElem?_eq_getElem _
      rw [(hF.next j _ hjj).2.2]
      omega

theorem DFix.n_ne {i j : Nat} {x y : Oper} (hx : ops.toList[i]? = some x) (hy : ops.toList[j]? = some y) (hxa : isAlloc x = true) (hya : isAlloc y = true) (hij : i ≠ j) : (F i).n ≠ (F j).n := by
  have hi : i < ops.size := by simpa using (List.getElem?_eq_some_iff.1 hx).1
  have hj : j < ops.size := by simpa using (List.getElem?_eq_some_iff.1 hy).1
  rcases Nat.lt_or_gt_of_ne hij with h | h
  · have h1 := hF.n_mono j (i + 1) (by omega) (by omega)
    have h2 := (hF.next i x hx).2.2
    rw [hxa] at h2; simp at h2; omega
  · have h1 := hF.n_mono i (j + 1) (by omega) (by omega)
    have h2 := (hF.next j y hy).2.2
    rw [hya] at h2; simp at h2; omega

variable {Cm0 : Com} {β0 : Bm} {s0 : St} {w0 : World} {D : List Deferred} {L : Nat → Bool} {Cm : Com} {β : Bm} {S : St} {a : Act} {w : World}
variable (hI : DInv P C call f rid ops Hs len0 sz F Cm0 β0 s0 w0 D L Cm β S a w)
include hI

/-- What is ahead of an operation that may come now is listed; what is behind it is not. -/
theorem DInv.before {j : Nat} {o : Oper} (ho : ops.toList[j]? = some o) (hd : ∀ e ∈ o.after.toList, anyBind e = true → L e.on = true) : ∀ i, ahead (masks ops.toList []) i j = true → L i = true :=
  ahead_listed hF.ok.back hI.closed j o ho hd

theorem DInv.behind {j k : Nat} (ho : k < ops.size) (hj : L j = false) (h : ahead (masks ops.toList []) j k = true) : L k = false := by
  cases hk : L k with
  | false => rfl
  | true =>
    have hkk : ops.toList[k]? = some (ops.toList[k]'(by simpa using ho)) := List.getElem?_eq_getElem _
    have := DInv.before hF hI hkk (fun e he hb => hI.closed k _ hkk hk e he hb) j h
    rw [hj] at this; cases this

theorem DInv.look {j : Nat} {o : Oper} (ho : ops.toList[j]? = some o) (hj : L j = false) (hd : ∀ e ∈ o.after.toList, anyBind e = true → L e.on = true) {t : Nat} (ht : t ∈ looks ops.toList o) :
    curUp ops.toList F L t ops.size = tmGet (F j).tm t := by
  have hjl : j < ops.size := by simpa using (List.getElem?_eq_some_iff.1 ho).1
  rw [curUp_stop (m := j) ?_ ops.size (by omega)]
  · refine curUp_text hF.put hF.deep (m := j) (by simp; omega) ?_ j (Nat.le_refl _)
    intro k x hk hx hxd
    refine DInv.before hF hI ho hd k (hF.ok.meet k j x o hk hx ho ?_)
    unfold meets
    rw [hxd]
    simp [ht]
  · intro k x hk hx hxd
    have hkl : k < ops.size := by simpa using (List.getElem?_eq_some_iff.1 hx).1
    by_cases e : k = j
    · rw [e]; exact hj
    · refine DInv.behind hF hI hkl hj (hF.ok.meet j k o x (by omega) ho hx ?_)
      unfold meets
      rw [hxd]
      simp [ht]

/-- The slots behind one operation more. -/
theorem DInv.put {j : Nat} {o : Oper} (ho : ops.toList[j]? = some o) (hj : L j = false) {L' : Nat → Bool} (hL : ∀ k, k ≠ j → L k = L' k) (hL' : L' j = true) {Cm' : Com} {β' : Bm} (hc : CLe Cm Cm') (hb : BLe β β') {V : Value} (hV : Rep Cm' β' (F j).v V) :
    ∀ t, t < sz → Rep Cm' β' (curUp ops.toList F L' t ops.size) ((a.put o.dst V).tmps.getD t undef) := by
  intro t ht
  have hjl : j < ops.size := by simpa using (List.getElem?_eq_some_iff.1 ho).1
  by_cases hd : o.dst = some t
  · have h1 : curUp ops.toList F L' t ops.size = (F j).v := by
      rw [curUp_stop (m := j + 1) ?_ ops.size (by omega)]
      · simp only [curUp]
        rw [if_pos ⟨hL', by rw [ho]; exact hd⟩]
        exact put_this hF.put hF.deep ho hd ht
      · intro k x hk hx hxd
        have hkl : k < ops.size := by simpa using (List.getElem?_eq_some_iff.1 hx).1
        rw [← hL k (by omega)]
        refine DInv.behind hF hI hkl hj (hF.ok.meet j k o x (by omega) ho hx ?_)
        unfold meets
        rw [hxd, hd]
        simp
    rw [h1, hd]
    have hts : t < a.tmps.size := by rw [hI.tsz]; exact ht
    simp only [Act.put]
    simpa [Array.getD_eq_getD_getElem?, hts] using hV
  · rw [← curUp_congr hL ops.size (.inr (by rw [ho]; exact hd))]
    have h2 : (a.put o.dst V).tmps.getD t undef = a.tmps.getD t undef := by
      cases hdst : o.dst with
      | none => rfl
      | some u =>
        have : u ≠ t := fun z => hd (by rw [hdst, z])
        simp [Act.put, Array.getD_eq_getD_getElem?, Array.getElem?_setIfInBounds_ne this]
    rw [h2]
    exact (hI.fr t ht).mono hc hb

/-- How many heavy operations came. -/
theorem DInv.heavy {j : Nat} {o : Oper} (ho : ops.toList[j]? = some o) (hj : L j = false) (hd : ∀ e ∈ o.after.toList, anyBind e = true → L e.on = true) (hh : isHeavy (C.mutated f rid) j o = true) :
    cnt (fun i => hvy C f rid ops i && L i) ops.size = (F j).k := by
  have hjl : j < ops.size := by simpa using (List.getElem?_eq_some_iff.1 ho).1
  rw [hF.k j (by omega), cnt_stop (j := j) (by omega)]
  · refine cnt_congr fun i hi => ?_
    cases hv : hvy C f rid ops i with
    | false => rfl
    | true =>
      unfold hvy at hv
      split at hv
      · rename_i x hx
        rw [DInv.before hF hI ho hd i (hF.ok.meet i j x o hi hx ho (by unfold meets; simp [hv, hh]))]
        rfl
      · cases hv
  · intro i h1 h2
    by_cases e : i = j
    · subst e; rw [hj]; simp
    · cases hv : hvy C f rid ops i with
      | false => rfl
      | true =>
        unfold hvy at hv
        split at hv
        · rename_i x hx
          rw [DInv.behind hF hI h2 hj (hF.ok.meet j i o x (by omega) ho hx (by unfold meets; simp [hv, hh]))]
          rfl
        · cases hv

/-- A reading comes within its window. -/
theorem DInv.window {j : Nat} {o : Oper} (ho : ops.toList[j]? = some o) (hj : L j = false) (hd : ∀ e ∈ o.after.toList, anyBind e = true → L e.on = true) :
    (window (C.mutated f rid) ops.toList (masks ops.toList []) j).1 ≤ cnt (fun i => hvy C f rid ops i && L i) ops.size ∧ cnt (fun i => hvy C f rid ops i && L i) ops.size ≤ (window (C.mutated f rid) ops.toList (masks ops.toList []) j).2 := by
  unfold Go.Ev.window
  change (((List.range ops.toList.length).filter (hvy C f rid ops)).filter fun i => ahead (masks ops.toList []) i j).length ≤ _ ∧ _ ≤ (((List.range ops.toList.length).filter (hvy C f rid ops)).filter fun i => !ahead (masks ops.toList []) j i).length
  rw [cnt_filter, cnt_filter]
  have hl : ops.toList.length = ops.size := by simp
  rw [hl]
  refine ⟨cnt_le fun i hi h => ?_, cnt_le fun i hi h => ?_⟩
  · simp only [Bool.and_eq_true] at h ⊢
    exact ⟨h.1, DInv.before hF hI ho hd i h.2⟩
  · simp only [Bool.and_eq_true, Bool.not_eq_true'] at h ⊢
    refine ⟨h.1, ?_⟩
    cases ha : ahead (masks ops.toList []) j i with
    | false => rfl
    | true => have := DInv.behind hF hI hi hj ha; rw [h.2] at this; cases this

/-- One operation more, of those that may come. -/
theorem DInv.oper (hC : CtxOk P C) (hcall : CallOk P call) (hlen0 : β0.length = len0) {j : Nat} {o : Oper} (ho : ops.toList[j]? = some o) (hj : L j = false) (hd : ∀ e ∈ o.after.toList, anyBind e = true → L e.on = true) {L' : Nat → Bool} (hL : ∀ k, k ≠ j → L k = L' k) (hL' : L' j = true)
    {Q : Exit → Act → World → Prop} {K : Act → World → Prop} (hK : ∀ Cm' β' S' a' w', DInv P C call f rid ops Hs len0 sz F Cm0 β0 s0 w0 D L' Cm' β' S' a' w' → K a' w') : wpOp P ops Q j K a w := by
  have ho' : ops[j]? = some o := by simpa using ho
  have hjl : j < ops.size := (Array.getElem?_eq_some_iff.1 ho').1
  obtain ⟨⟨d, hdp, hds⟩, hsz⟩ := hF.deep j (by simp; omega)
  have hlk := fun {t : Nat} (ht : t ∈ looks ops.toList o) => DInv.look hF hI ho hj hd ht
  have hm : TmOk Cm β (mask ops.toList o (F j).tm) a.tmps := mask_ok hdp hds (by rw [hsz, hI.tsz]) fun t ht hlt => by
    rw [← hlk ht]; exact hI.fr t (by rw [← hsz]; exact hlt)
  have hmw : wantedE ops.toList (mask ops.toList o (F j).tm) o = wantedE ops.toList (F j).tm o := mask_wanted hdp hds
  have hme : ∀ S1 : St, opE C call f rid j o (mask ops.toList o (F j).tm) S1 = opE C call f rid j o (F j).tm S1 := fun S1 => opE_congr (mask_eval hdp hds)
  have hcl' : ∀ (k : Nat) (x : Oper), ops.toList[k]? = some x → L' k = true → ∀ e ∈ x.after.toList, anyBind e = true → L' e.on = true := by
    have hup : ∀ k, L k = true → L' k = true := fun k hk => by
      by_cases e : k = j
      · rw [e]; exact hL'
      · rw [← hL k e]; exact hk
    intro k x hx hk e he hb
    by_cases e' : k = j
    · subst e'
      rw [ho] at hx; cases hx
      exact hup _ (hd e he hb)
    · exact hup _ (hI.closed k x hx (by rw [hL k e']; exact hk) e he hb)
  have hcntL : isHeavy (C.mutated f rid) j o = false → cnt (fun i => hvy C f rid ops i && L' i) ops.size = cnt (fun i => hvy C f rid ops i && L i) ops.size := fun hh => cnt_congr fun i hi => by
    by_cases e : i = j
    · subst e; unfold hvy; rw [ho]; simp [hh]
    · rw [hL i e]
  have hcntH : isHeavy (C.mutated f rid) j o = true → cnt (fun i => hvy C f rid ops i && L' i) ops.size = cnt (fun i => hvy C f rid ops i && L i) ops.size + 1 := fun hh =>
    cnt_flip (j := j) (fun i hi => by rw [hL i hi]) (by rw [hj]; simp) (by rw [hL']; unfold hvy; rw [ho]; simp [hh]) hjl
  have hal' : ∀ (k : Nat) (x : Oper) (t : TypeId), ops.toList[k]? = some x → x.op = .alloc t → L' k = false → k ≠ j ∧ L k = false := fun k x t hx hxo hk => by
    have : k ≠ j := fun z => by subst z; rw [hL'] at hk; cases hk
    exact ⟨this, by rw [hL k this]; exact hk⟩
  have hsize : ∀ V : Value, (a.put o.dst V).tmps.size = sz := fun V => by
    rw [← hI.tsz]; cases o.dst <;> simp [Act.put]
  unfold wpOp
  rw [ho']
  simp only []
  rcases hF.case j o ho with ⟨t, z, hop, hz, hv, hb, hl⟩ | ⟨ha, hw, hv, hh⟩ | ⟨ha, hw, s1, s1', hs, hop, hh, hs'⟩ | ⟨ha, hw, s1, s1', hs, hop, hh, hl, hr⟩
  · -- a new variable
    have hg := hF.ok.guard j o ho (by unfold isAlloc; rw [hop])
    have hwant : Region.wanted o (yielded ops a.tmps) = true := by unfold Region.wanted; rw [hg]
    rw [if_pos hwant]
    refine .inl ?_
    obtain ⟨zv, hzv, hrun⟩ := alloc_run (P := P) hC hop hz a w
    obtain ⟨hβ, z', hz', hSk⟩ := hI.al j o t ho hop hj
    rw [hz] at hz'; cases hz'
    have hz0 : refsL z.cells = 0 := by
      have := (ofZ_cells (Cm := fun _ => none) (β := []) hzv).refs_le
      simpa using this
    obtain ⟨p1, p2⟩ := hI.inv.place hβ hSk (ofZ_cells hzv) hz0 (elem := t)
    have hst := hI.step.place (E := ⟨w.heap.size, 0, zv.cells.size, 0, false, z.cells.length⟩) (o := .cells zv.cells t (0, 0)) (n := (F j).n) (by omega) rfl p2
    have hnl : (F j).n < β.length := (List.getElem?_eq_some_iff.1 hβ).1
    unfold Oper.wp
    rw [hrun]
    simp only [Oper.upon]
    have hah : isHeavy (C.mutated f rid) j o = false := by unfold isHeavy; rw [hop]
    refine hK Cm _ S _ _ ⟨hcl', by rw [hcntL hah]; exact hI.hs, p1, hst, hsize _, DInv.put hF hI ho hj hL hL' (.refl _) p2 ?_, ?_, by rw [put_defers]; exact hI.df⟩
    · rw [hv]
      exact .ptr (e := ⟨w.heap.size, 0, zv.cells.size, 0, false, z.cells.length⟩) (by simp [hnl]) (Nat.le_refl _) (fun _ => rfl)
    · intro k x t' hx hxo hk
      obtain ⟨hkj, hk⟩ := hal' k x t' hx hxo hk
      obtain ⟨q1, q2⟩ := hI.al k x t' hx hxo hk
      refine ⟨?_, q2⟩
      have := hF.n_ne ho hx (by unfold isAlloc; rw [hop]) (by unfold isAlloc; rw [hxo]) (fun z => hkj z.symm)
      rw [List.getElem?_set_ne this]; exact q1
  · -- an operation that is not wanted
    have hwant := wanted_sound hm (hmw.trans hw)
    rw [if_neg (by rw [hwant]; simp)]
    refine hK Cm β S _ _ ⟨hcl', ?_, hI.inv, hI.step, hsize _, DInv.put hF hI ho hj hL hL' (.refl _) (.refl _) (by rw [hv]; exact .undef), ?_, by rw [put_defers]; exact hI.df⟩
    · cases hhv : isHeavy (C.mutated f rid) j o with
      | false => rw [hcntL hhv]; exact hI.hs
      | true =>
        have e1 := DInv.heavy hF hI ho hj hd hhv
        rw [hcntH hhv, e1, hh hhv, ← e1]; exact hI.hs
    · intro k x t' hx hxo hk
      exact hI.al k x t' hx hxo (hal' k x t' hx hxo hk).2
  · -- a heavy operation
    have hwant := wanted_sound hm (hmw.trans hw)
    rw [if_pos hwant]
    refine .inl ?_
    have e1 := DInv.heavy hF hI ho hj hd hh
    have hS : S = s1 := by
      have := hI.hs
      rw [e1, hs] at this
      exact (Option.some.inj this).symm
    subst hS
    refine (opE_sound (s' := s1') (v := (F j).v) hC hcall hI.inv hm (by rw [hme]; exact hop)).wp fun V w' ⟨Cm', β', p1, p2, p3⟩ => ?_
    refine hK Cm' β' s1' _ _ ⟨hcl', by rw [hcntH hh, e1]; exact hs', p1, hI.step.trans p2, hsize _, DInv.put hF hI ho hj hL hL' p2.com p2.ble p3, ?_, by rw [put_defers]; exact hI.df⟩
    intro k x t' hx hxo hk
    obtain ⟨q1, z, q2, q3⟩ := hI.al k x t' hx hxo (hal' k x t' hx hxo hk).2
    obtain ⟨u1, u2⟩ := p2.unp _ q1
    exact ⟨u1, z, q2, by rw [u2]; exact q3⟩
  · -- a light one
    have hwant := wanted_sound hm (hmw.trans hw)
    rw [if_pos hwant]
    refine .inl ?_
    obtain ⟨g1, g2⟩ := light_op hh ha hl hop
    have hopS : opE C call f rid j o (F j).tm S = some ((F j).v, S) := by
      cases hrd : isRead o with
      | false => exact g2 hrd S
      | true =>
        obtain ⟨w1, w2⟩ := DInv.window hF hI ho hj hd
        obtain ⟨s3, h3⟩ := hF.reads _ (hr hrd) _ S hI.hs w1 w2
        simp only at h3
        rw [h3, (light_op hh ha hl h3).1]
    refine (opE_sound (s' := S) (v := (F j).v) hC hcall hI.inv hm (by rw [hme]; exact hopS)).wp fun V w' ⟨Cm', β', p1, p2, p3⟩ => ?_
    refine hK Cm' β' S _ _ ⟨hcl', by rw [hcntL hh]; exact hI.hs, p1, hI.step.trans p2, hsize _, DInv.put hF hI ho hj hL hL' p2.com p2.ble p3, ?_, by rw [put_defers]; exact hI.df⟩
    intro k x t' hx hxo hk
    obtain ⟨q1, z, q2, q3⟩ := hI.al k x t' hx hxo (hal' k x t' hx hxo hk).2
    obtain ⟨u1, u2⟩ := p2.unp _ q1
    exact ⟨u1, z, q2, by rw [u2]; exact q3⟩
end

section
variable {P : Program} {C : Ctx} {call : CallE} {f rid : Nat} {ops : Array Oper} {Hs : List St} {rds : List Rd} {S0 : St} {len0 sz : Nat} {F : Nat → Pt}

/-- All orders. -/
theorem draw_any (hF : DFix P C call f rid ops Hs rds S0 len0 sz F) (hC : CtxOk P C) (hcall : CallOk P call) {Cm0 : Com} {β0 : Bm} {s0 : St} {w0 : World} {D : List Deferred} (hlen0 : β0.length = len0) {Q : Exit → Act → World → Prop}
    (hQ : ∀ Cm β S a w, Hs[(F ops.size).k]? = some S → SInv Cm β S w → Step Cm0 β0 s0 w0 Cm β S w → TmOk Cm β (F ops.size).tm a.tmps → a.defers = D → Q .normal a w) :
    ∀ (fuel : Nat) (L : Array Bool) (Cm : Com) (β : Bm) (S : St) (a : Act) (w : World), L.size = ops.size → cnt (fun i => !(L.getD i false)) ops.size = fuel → DInv P C call f rid ops Hs len0 sz F Cm0 β0 s0 w0 D (fun i => L.getD i false) Cm β S a w →
      wpAny P .any ops Q fuel L a w := by
  -- at the end
  have fin : ∀ (L : Array Bool) (Cm : Com) (β : Bm) (S : St) (a : Act) (w : World), L.size = ops.size → cnt (fun i => !(L.getD i false)) ops.size = 0 → DInv P C call f rid ops Hs len0 sz F Cm0 β0 s0 w0 D (fun i => L.getD i false) Cm β S a w → Q .normal a w := by
    intro L Cm β S a w hs h0 hI
    have hall : ∀ i, i < ops.size → L.getD i false = true := fun i hi => by
      have := cnt_zero h0 i hi
      simpa using this
    have hk : cnt (fun i => hvy C f rid ops i && L.getD i false) ops.size = (F ops.size).k := by
      rw [hF.k ops.size (Nat.le_refl _)]
      exact cnt_congr fun i hi => by rw [hall i hi]; simp
    obtain ⟨hdp, hsz⟩ := hF.deep ops.size (by simp)
    refine hQ Cm β S a w (by rw [← hk]; exact hI.hs) hI.inv hI.step ⟨by rw [hsz, hI.tsz], hdp, fun t ht => ?_⟩ hI.df
    have := hI.fr t (by rw [← hI.tsz]; exact ht)
    rwa [curUp_text hF.put hF.deep (m := ops.size) (by simp) (fun k o hk _ _ => hall k hk) ops.size (Nat.le_refl _)] at this
  have none_ready : ∀ (L : Array Bool), L.size = ops.size → (∀ i, i < ops.size → L.getD i false = true) → Region.ready .any ops L = [] := by
    intro L hs hall
    apply List.eq_nil_iff_forall_not_mem.2
    intro j hj
    obtain ⟨h1, o, ho, _⟩ := mem_ready.1 hj
    have hlt : j < ops.size := (Array.getElem?_eq_some_iff.1 ho).1
    have := hall j hlt
    rw [Array.getD_eq_getD_getElem?, Array.getElem?_eq_getElem (by omega)] at h1 this
    simp only [Option.getD_some] at h1 this
    rw [h1] at this; cases this
  intro fuel
  induction fuel with
  | zero =>
    intro L Cm β S a w hs h0 hI
    refine ⟨none_ready L hs fun i hi => ?_, fin L Cm β S a w hs h0 hI⟩
    have := cnt_zero h0 i hi
    simpa using this
  | succ fuel ih =>
    intro L Cm β S a w hs h0 hI
    refine ⟨fun hr => ?_, fun j hj => ?_⟩
    · -- the first one that is not listed may come
      exfalso
      have hex : ∃ i, i < ops.size ∧ L.getD i false = false := by
        refine Classical.byContradiction fun hno => ?_
        have hall : ∀ i, i < ops.size → L.getD i false = true := fun i hi => by
          cases h : L.getD i false with
          | true => rfl
          | false => exact (hno ⟨i, hi, h⟩).elim
        have : cnt (fun i => !(L.getD i false)) ops.size = cnt (fun _ => false) ops.size := cnt_congr fun i hi => by rw [hall i hi]; rfl
        have hz : ∀ n, cnt (fun _ => false) n = 0 := fun n => by induction n with
          | zero => rfl
          | succ n ih => simp [cnt, ih]
        rw [hz] at this; omega
      have hmin : ∃ i, (i < ops.size ∧ L.getD i false = false) ∧ ∀ k, k < i → ¬ (k < ops.size ∧ L.getD k false = false) := by
        obtain ⟨i, hi⟩ := hex
        induction i using Nat.strongRecOn with
        | _ i ihi =>
          by_cases h : ∃ k, k < i ∧ (k < ops.size ∧ L.getD k false = false)
          · obtain ⟨k, hk, hk'⟩ := h; exact ihi k hk hk'
          · exact ⟨i, hi, fun k hk hk' => h ⟨k, hk, hk'⟩⟩
      obtain ⟨i, ⟨hi, hLi⟩, hmin⟩ := hmin
      have : i ∈ Region.ready .any ops L := by
        refine mem_ready.2 ⟨?_, ops[i], Array.getElem?_eq_getElem hi, fun e he hb => ?_⟩
        · rw [Array.getD_eq_getD_getElem?, Array.getElem?_eq_getElem (by omega)] at hLi ⊢
          simpa using hLi
        · rw [anyBind_eq] at hb
          have hlt := hF.ok.back i ops[i] (by simp [hi]) e (Array.mem_toList_iff.2 he) hb
          cases hq : L.getD e.on false with
          | true => rfl
          | false => exact (hmin e.on hlt ⟨by omega, hq⟩).elim
      rw [hr] at this; cases this
    · obtain ⟨h1, o, ho, h2⟩ := mem_ready.1 hj
      have hjl : j < ops.size := (Array.getElem?_eq_some_iff.1 ho).1
      have hLj : L.getD j false = false := by
        rw [Array.getD_eq_getD_getElem?, Array.getElem?_eq_getElem (by omega)] at h1 ⊢
        simpa using h1
      have hset : ∀ k, k ≠ j → L.getD k false = (L.setIfInBounds j true).getD k false := fun k hk => by
        simp [Array.getD_eq_getD_getElem?, Array.getElem?_setIfInBounds_ne (fun z => hk z.symm)]
      have hsetj : (L.setIfInBounds j true).getD j false = true := by
        have : j < L.size := by omega
        simp [Array.getD_eq_getD_getElem?, this]
      refine DInv.oper hF hI hC hcall hlen0 (by simpa using ho) hLj (fun e he hb => h2 e (Array.mem_toList_iff.1 he) (by rw [anyBind_eq]; exact hb)) (L' := fun i => (L.setIfInBounds j true).getD i false) hset hsetj ?_
      intro Cm' β' S' a' w' hI'
      refine ih _ Cm' β' S' a' w' (by simp [hs]) ?_ hI'
      have := cnt_flip (p := fun i => !((L.setIfInBounds j true).getD i false)) (q := fun i => !(L.getD i false)) (j := j) (fun i hi => by rw [hset i hi]) (by rw [hsetj]; rfl) (by rw [hLj]; rfl) hjl
      omega
end
end Go.Ev
