/- Code (1): a drawn region. -/
import Derived.Test.YtnnebeidpkaobaaGreatDoorEvDraw5
set_option linter.unusedVariables false
set_option linter.unusedSimpArgs false
set_option linter.unusedSectionVars false
namespace Go.Ev
open Go
set_option linter.unusedSectionVars false
set_option linter.unusedVariables false

section
variable {P : Program} {C : Ctx} {Cm : Com} {β : Bm} {s s' : St} {w : World} {tm tm' : Tm} {a : Act} {v : EV}

/-- Blocks that wait for their place. -/
theorem SInv.wait (h : SInv Cm β s w) {s1 : St} {zs : List Blk} (h1 : s1.h = s.h ++ zs) (hk : s1.keep = s.keep) {w' : World} (hh : w'.heap = w.heap) (ho : w'.os = w.os) (ht : w'.tape = w.tape) (hu : w'.output = w.output) :
    SInv Cm (β ++ List.replicate zs.length none) s1 w' ∧ Step Cm β s w Cm (β ++ List.replicate zs.length none) s1 w' := by
  have hl := h.len
  have hb : BLe β (β ++ List.replicate zs.length none) := ⟨by simp, fun b e he => ⟨e, by rw [List.getElem?_append_left (List.getElem?_eq_some_iff.1 he).1]; exact he, .inl rfl⟩⟩
  have hix : ∀ (i : Nat) (e : Ent), (β ++ List.replicate zs.length none)[i]? = some (some e) → i < β.length ∧ β[i]? = some (some e) := by
    intro i e he
    rw [List.getElem?_append] at he
    split at he
    · exact ⟨‹_›, he⟩
    · rw [List.getElem?_replicate] at he; split at he <;> cases he
  have hkx : ∀ (i : Nat) (k : Blk), i < β.length → s1.h[i]? = some k → s.h[i]? = some k := fun i k hi hk => by
    rw [h1, List.getElem?_append_left (by omega)] at hk; exact hk
  refine ⟨⟨by rw [h1]; simp [hl], ?_, ?_, ?_, ?_, by rw [hk, h1]; have := h.keep; simp; omega⟩, ⟨.refl _, hb, ho, ht, hu, by rw [hh]; exact Nat.le_refl _, fun b _ _ => by rw [hh], ?_, fun _ _ h => .inl h, ?_⟩⟩
  · intro i e k he hkk
    obtain ⟨hi, he⟩ := hix i e he
    exact (h.blk i e k he (hkx i k hi hkk)).mono (.refl _) hb (by omega) (by rw [hh])
  · intro b c hc; rw [hh]; exact h.com b c hc
  · intro i j e e' k hij he he' hkk hf
    obtain ⟨hi, he⟩ := hix i e he
    obtain ⟨hj, he'⟩ := hix j e' he'
    exact h.dis i j e e' k hij he he' (hkx i k hi hkk) hf
  · intro i e k he hkk hf
    obtain ⟨hi, he⟩ := hix i e he
    exact h.unc i e k he (hkx i k hi hkk) hf
  · intro b ⟨i, e, k, he, hkk, hf, hbk⟩
    obtain ⟨hi, he⟩ := hix i e he
    exact .inl ⟨i, e, k, he, hkx i k hi hkk, hf, hbk⟩
  · intro b hb
    have := (List.getElem?_eq_some_iff.1 hb).1
    exact ⟨by rw [List.getElem?_append_left this]; exact hb, by rw [h1, List.getElem?_append_left (by omega)]⟩

theorem drawE_sound (hC : CtxOk P C) {call : CallE} (hcall : CallOk P call) {f rid : Nat} {ops : Array Oper} {Q : Exit → Act → World → Prop} {Cm0 : Com} {β0 : Bm} {s0 : St} {w0 : World} {D : List Deferred}
    (hQ : ∀ Cm' β' a' w', SInv Cm' β' s' w' → Step Cm0 β0 s0 w0 Cm' β' s' w' → TmOk Cm' β' tm' a'.tmps → a'.defers = D → Q .normal a' w')
    (hrun : drawE C call f rid ops.toList tm s = some (tm', s')) (h : SInv Cm β s w) (hst : Step Cm0 β0 s0 w0 Cm β s w) (ht : TmOk Cm β tm a.tmps) (hd : a.defers = D) : (Code.region rid ops true).wp P Q a w := by
  unfold drawE at hrun
  split at hrun
  · rename_i hok
    split at hrun
    · rename_i S0 hpre
      split at hrun
      · rename_i tm1 s1 hs rds hdr
        split at hrun
        · rename_i hrd
          cases hrun
          have hok := drawOk_some hok
          have hl := h.len
          obtain ⟨later, g1, ⟨rnew, g2⟩, F, f1, f2, f3, f4, f5, f6⟩ := runDraw_trace C call f rid ops.toList ops.toList 0 s.h.length tm S0 [] [] s hdr hpre rfl (Nat.le_refl s.h.length)
          simp only [Nat.zero_add] at f4 f5 f6
          obtain ⟨zs, e1, e2, e3⟩ := preAlloc_ext C hpre
          obtain ⟨d, hdp, hds⟩ := ht.deep
          have hF : DFix P C call f rid ops (s' :: hs).reverse rds S0 s.h.length a.tmps.size F := ⟨hok, fun j o ho => (f6 j o ho).1, fun j o ho => (f6 j o ho).2, by simpa using f2, readsOk_some hrd, ⟨d, by rw [f1]; exact hdp, by rw [f1]; exact hds⟩, by rw [f1]; exact ht.size⟩
          have hlast : ∀ S, (s' :: hs).reverse[(F ops.size).k]? = some S → S = s' := by
            intro S hS
            have hlen := congrArg List.length g1
            simp at hlen f5
            have : (F ops.size).k = hs.length := by omega
            rw [this] at hS
            simpa using hS.symm
          refine wp_region_any hC.orders ?_
          obtain ⟨q1, q2⟩ := h.wait (w' := { w with drawn := w.drawn + 1 }) e1 e2 rfl rfl rfl rfl
          refine draw_any hF hC hcall (Cm0 := Cm) (β0 := β) (s0 := s) (w0 := w) (D := D) hl ?_ ops.size _ Cm (β ++ List.replicate zs.length none) S0 a _ (by simp) ?_ ⟨?_, ?_, q1, q2, rfl, ?_, ?_, hd⟩
          · intro Cm' β' S a' w' k1 k2 k3 k4 k5
            have := hlast S k1
            subst this
            exact hQ Cm' β' a' w' k2 (hst.trans k3) (by simp at f4; rw [← f4]; exact k4) k5
          · have : ∀ n, n ≤ ops.size → cnt (fun i => !((Array.replicate ops.size false).getD i false)) n = n := fun n => by
              induction n with
              | zero => intro _; rfl
              | succ n ih => intro hn; simp only [cnt]; rw [ih (by omega)]; simp [Array.getD_eq_getD_getElem?, Array.getElem?_replicate]; split <;> simp
            exact this _ (Nat.le_refl _)
          · intro j o ho hj
            exfalso
            simp [Array.getD_eq_getD_getElem?, Array.getElem?_replicate] at hj
            split at hj <;> simp at hj
          · have hz : ∀ n, cnt (fun i => hvy C f rid ops i && (Array.replicate ops.size false).getD i false) n = 0 := fun n => by
              induction n with
              | zero => rfl
              | succ n ih => simp only [cnt]; rw [ih]; simp [Array.getD_eq_getD_getElem?, Array.getElem?_replicate]; intro _; split <;> simp
            rw [hz, g1]; rfl
          · intro t htt
            have : ∀ n, curUp ops.toList F (fun i => (Array.replicate ops.size false).getD i false) t n = tmGet tm t := fun n => by
              induction n with
              | zero => simp [curUp, f1]
              | succ n ih =>
                simp only [curUp]
                rw [if_neg, ih]
                simp [Array.getD_eq_getD_getElem?, Array.getElem?_replicate]
                intro hc; split at hc <;> simp at hc
            rw [this]
            exact (ht.get t htt).mono q2.com q2.ble
          · intro j o t ho hop _
            rcases (f6 j o ho).1 with ⟨t', z, hop', hz, hv, hb, hll⟩ | ⟨ha, _⟩ | ⟨ha, _⟩ | ⟨ha, _⟩
            · rw [hop] at hop'; cases hop'
              refine ⟨?_, z, hz, hb⟩
              have hlt := (List.getElem?_eq_some_iff.1 hb).1
              rw [e1] at hlt
              simp at hlt
              rw [List.getElem?_append_right (by omega), List.getElem?_replicate, if_pos (by omega)]
            all_goals (unfold isAlloc at ha; rw [hop] at ha; cases ha)
        · cases hrun
      · cases hrun
    · cases hrun
  · cases hrun
end
end Go.Ev
