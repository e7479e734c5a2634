/- Regions that draw their order (1): what an operation looks at. -/
import Derived.Test.YtnnebeidpkaobaaGreatDoorEvOpsB
set_option linter.unusedVariables false
set_option linter.unusedSimpArgs false
set_option linter.unusedSectionVars false
namespace Go.Ev
open Go
set_option linter.unusedSectionVars false
set_option linter.unusedVariables false

section
variable {C : Ctx} {call : CallE} {f rid i : Nat} {o : Oper} {tm tm' : Tm} {s s' : St} {v : EV}

theorem evalL_congr {xs : List Operand} (h : ∀ x ∈ xs, evalO C tm x = evalO C tm' x) : evalL C tm xs = evalL C tm' xs := by
  induction xs with
  | nil => rfl
  | cons x xs ih => simp only [evalL]; rw [h x (by simp), ih fun y hy => h y (by simp [hy])]

theorem partsE_congr {ps : List (Nat × Operand)} (h : ∀ p ∈ ps, evalO C tm p.2 = evalO C tm' p.2) : partsE C tm ps = partsE C tm' ps := by
  induction ps with
  | nil => rfl
  | cons p ps ih =>
    obtain ⟨k, x⟩ := p
    simp only [partsE]; rw [h (k, x) (by simp), ih fun y hy => h y (by simp [hy])]

theorem evalOpt_congr {x : Option Operand} (h : ∀ y ∈ x.toArray.toList, evalO C tm y = evalO C tm' y) : evalOpt C tm x = evalOpt C tm' x := by
  cases x with
  | none => rfl
  | some y => simp only [evalOpt]; rw [h y (by simp)]

theorem opE_congr (h : ∀ x ∈ o.op.operands.toList, evalO C tm x = evalO C tm' x) : opE C call f rid i o tm s = opE C call f rid i o tm' s := by
  unfold opE
  cases ho : o.op <;> rw [ho] at h <;> simp only [Op.operands] at h <;> simp only []
  case move x => rw [h x (by simp)]
  case assign x => rw [h x (by simp)]
  case pick c a b => unfold pickE; rw [h c (by simp), h a (by simp), h b (by simp)]
  case box t x => unfold boxE; rw [h x (by simp)]
  case build t ps => unfold buildO; rw [partsE_congr fun p hp => h p.2 (by simp only [List.mem_map]; exact ⟨p, hp, rfl⟩)]
  case buildSlice t n ps => unfold buildSliceO; rw [partsE_congr fun p hp => h p.2 (by simp only [List.mem_map]; exact ⟨p, hp, rfl⟩)]
  case load t x => unfold loadO; rw [h x (by simp)]
  case store t x y => unfold storeO; rw [h x (by simp), h y (by simp)]
  case nilCheck x => unfold nilCheckO; rw [h x (by simp)]
  case binOp op t x y yt => unfold binO; rw [h x (by simp), h y (by simp)]
  case unOp op t x => rw [h x (by simp)]
  case convert a b x => rw [h x (by simp)]
  case makeInterface t x => unfold makeInterfaceO; rw [h x (by simp)]
  case makeFunc fn a b => unfold makeFuncO; rw [evalL_congr fun x hx => h x (by simp; exact .inl (by simpa using hx)), evalL_congr fun x hx => h x (by simp; exact .inr (by simpa using hx))]
  case makeSlice t x y => unfold makeSliceO; rw [h x (by simp), h y (by simp)]
  case slice t x lo hi mx =>
    unfold sliceO
    rw [h x (by simp), evalOpt_congr (x := lo) fun y hy => h y (by simp; simp at hy; simp [hy]), evalOpt_congr (x := hi) fun y hy => h y (by simp; simp at hy; simp [hy]),
      evalOpt_congr (x := mx) fun y hy => h y (by simp; simp at hy; simp [hy])]
  case fieldAddr t x k => rw [h x (by simp)]
  case field t x k => rw [h x (by simp)]
  case indexAddr t x y => unfold indexAddrO; rw [h x (by simp), h y (by simp)]
  case index t x y => unfold indexO; rw [h x (by simp), h y (by simp)]
  case extract x k => unfold extractO; rw [h x (by simp)]
  case call c =>
    unfold callO
    unfold Call.operands at h
    have ha : evalL C tm c.args.toList = evalL C tm' c.args.toList := evalL_congr fun x hx => h x (by simp; exact .inr (by simpa using hx))
    cases hc : c.callee with
    | builtin b => simp only []; rw [ha]
    | value g => simp only []; rw [ha, h g (by rw [hc]; simp)]
    | invoke r m => rfl

/-- An operation that leaves the state, and does not look at it. -/
theorem freezeV_plain (h : v.plain = true) (s : St) : freezeV s v = some (v, s) := by
  cases v <;> first | rfl | (simp [EV.plain] at h; done)

theorem freezeP_plain : ∀ {ps : List (Nat × EV)}, (∀ p ∈ ps, p.2.plain = true) → ∀ s : St, freezeP s ps = some (ps, s)
  | [], _, s => rfl
  | (k, v) :: ps, h, s => by
    simp only [freezeP]
    rw [freezeV_plain (h (k, v) (by simp)) s]
    simp only []
    rw [freezeP_plain (fun p hp => h p (by simp [hp])) s]

theorem hasRef_false (h : hasRef C tm o = false) : ∀ x ∈ o.op.operands.toList, ∃ v, evalO C tm x = some v ∧ v.plain = true := by
  intro x hx
  unfold hasRef at h
  rw [List.any_eq_false] at h
  have := h x hx
  split at this
  · rename_i v hv; exact ⟨v, hv, by simpa using this⟩
  · exact absurd rfl this

theorem partsE_plain : ∀ {ps : List (Nat × Operand)} {vs : List (Nat × EV)}, (∀ p ∈ ps, ∃ v, evalO C tm p.2 = some v ∧ v.plain = true) → partsE C tm ps = some vs → ∀ p ∈ vs, p.2.plain = true
  | [], vs, _, h => by simp only [partsE, Option.some.injEq] at h; subst h; simp
  | (k, x) :: ps, vs, hp, h => by
    simp only [partsE] at h
    obtain ⟨v, hv, hpl⟩ := hp (k, x) (by simp)
    simp only at hv
    rw [hv] at h
    split at h
    · rename_i vs' h1 h2
      cases h1
      cases h
      intro p hq
      simp only [List.mem_cons] at hq
      rcases hq with rfl | hq
      · exact hpl
      · exact partsE_plain (fun p hp' => hp p (by simp [hp'])) h2 p hq
    · cases h

theorem just_state {x : Option EV} {s2 : St} (h : just s x = some (v, s')) : s' = s ∧ just s2 x = some (v, s2) := by
  obtain ⟨rfl, rfl⟩ := just_some h
  exact ⟨rfl, rfl⟩

/-- A light operation leaves the state; if it does not read, it goes alike anywhere. -/
theorem light_op (hh : isHeavy (C.mutated f rid) i o = false) (ha : isAlloc o = false) (hl : lightOk C tm o = true) (h : opE C call f rid i o tm s = some (v, s')) :
    s' = s ∧ (isRead o = false → ∀ s2, opE C call f rid i o tm s2 = some (v, s2)) := by
  unfold opE at h ⊢
  unfold isHeavy at hh
  unfold isAlloc at ha
  unfold lightOk at hl
  cases ho : o.op <;> rw [ho] at h hh ha hl <;> simp only [] at h hh ha hl ⊢ <;> first
    | (cases h; done)
    | (cases hh; done)
    | (cases ha; done)
    | exact ⟨(just_state (s2 := s) h).1, fun _ s2 => (just_state h).2⟩
    | skip
  case pick c a b =>
    unfold pickE at h ⊢
    split at h
    · exact ⟨(just_state (s2 := s) h).1, fun _ s2 => (just_state h).2⟩
    · exact ⟨(just_state (s2 := s) h).1, fun _ s2 => (just_state h).2⟩
    · cases h
  case build t ps =>
    have hp := hasRef_false (by simpa using hl)
    rw [ho] at hp
    simp only [Op.operands, List.mem_map] at hp
    unfold buildO at h ⊢
    cases hps : partsE C tm ps.toList with
    | none => rw [hps] at h; cases h
    | some vs =>
      have hpl := partsE_plain (fun p hq => hp p.2 ⟨p, hq, rfl⟩) hps
      rw [hps] at h
      simp only [Option.bind_some, freezeP_plain hpl] at h ⊢
      exact ⟨(just_state (s2 := s) h).1, fun _ s2 => (just_state h).2⟩
  case buildSlice t n ps =>
    have hp := hasRef_false (by simpa using hl)
    rw [ho] at hp
    simp only [Op.operands, List.mem_map] at hp
    unfold buildSliceO at h ⊢
    rw [hh] at h ⊢
    cases hps : partsE C tm ps.toList with
    | none => rw [hps] at h; cases h
    | some vs =>
      have hpl := partsE_plain (fun p hq => hp p.2 ⟨p, hq, rfl⟩) hps
      rw [hps] at h
      simp only [Option.bind_some, freezeP_plain hpl] at h ⊢
      unfold buildSliceE at h ⊢
      repeat' split at h
      all_goals first
        | (cases h; done)
        | (simp only [Bool.false_eq_true] at *; done)
        | skip
      all_goals simp_all
  case load t x =>
    unfold loadO at h ⊢
    exact ⟨(just_state (s2 := s) h).1, fun hr => by simp [isRead, ho] at hr⟩
  case nilCheck x =>
    unfold nilCheckO at h ⊢
    split at h <;> first | (cases h; simp_all; done) | (cases h; done)
  case binOp op t x y yt =>
    unfold binO at h ⊢
    split at h
    · exact ⟨(just_state (s2 := s) h).1, fun _ s2 => (just_state h).2⟩
    · cases h
  case convert a b x =>
    refine ⟨?_, fun hr => by simp [isRead, ho] at hr⟩
    obtain ⟨x', hx, h⟩ := bind_some h
    unfold convE at h
    rw [hh] at h
    repeat' split at h
    all_goals first
      | (cases h; rfl)
      | (cases h; done)
      | (obtain ⟨r, hr, h⟩ := bind_some h
         simp only [Option.map_eq_some_iff] at h
         obtain ⟨l, hl, h⟩ := h
         cases h; rfl)
      | skip
    all_goals simp_all
  case makeInterface t x =>
    have hp := hasRef_false (by simpa using hl)
    rw [ho] at hp
    obtain ⟨xv, hx, hpl⟩ := hp x (by simp [Op.operands])
    unfold makeInterfaceO at h ⊢
    rw [hx] at h
    simp only [Option.bind_some, freezeV_plain hpl, hx] at h ⊢
    repeat' split at h
    all_goals first | (cases h; done) | simp_all
  case makeFunc fn a b =>
    unfold makeFuncO at h ⊢
    split at h
    · cases h; exact ⟨rfl, fun _ s2 => rfl⟩
    · cases h
  case slice t x lo hi mx =>
    unfold sliceO at h ⊢
    refine ⟨?_, fun hr => by simp [isRead, ho] at hr⟩
    split at h
    · exact (just_state (s2 := s) h).1
    · cases h
  case indexAddr t x y =>
    unfold indexAddrO at h ⊢
    split at h
    · exact ⟨(just_state (s2 := s) h).1, fun _ s2 => (just_state h).2⟩
    · cases h
  case index t x y =>
    unfold indexO at h ⊢
    split at h
    · exact ⟨(just_state (s2 := s) h).1, fun _ s2 => (just_state h).2⟩
    · cases h
  case extract x k =>
    unfold extractO at h ⊢
    split at h
    · exact ⟨(just_state (s2 := s) h).1, fun _ s2 => (just_state h).2⟩
    · cases h
  case call c =>
    obtain ⟨callee, args, ats⟩ := c
    unfold callO at h ⊢
    cases callee with
    | value g => simp at hh
    | invoke r m => simp at hh
    | builtin b =>
      simp only [] at h ⊢
      cases ha : evalL C tm args.toList with
      | none => rw [ha] at h; cases h
      | some as =>
        rw [ha] at h
        simp only [] at h ⊢
        cases b <;> simp at hh <;> unfold builtinE at h ⊢ <;> simp only [] at h ⊢
        case len =>
          cases as with
          | nil => cases h
          | cons x as => cases as with
            | cons y as => cases h
            | nil =>
              simp only [] at h ⊢
              split at h
              · split at h
                · cases h; simp_all
                · cases h; simp_all
                · cases h
                · simp only [Option.map_eq_some_iff] at h
                  obtain ⟨n, hn, h⟩ := h
                  cases h; simp_all
                · cases h
              · cases h
        all_goals
          cases as with
          | nil => cases h
          | cons x as =>
            simp only [] at h ⊢
            split at h
            · simp only [Option.map_eq_some_iff] at h
              obtain ⟨n, hn, h⟩ := h
              cases h; simp_all
            · cases h
end
end Go.Ev
