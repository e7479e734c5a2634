/- sync.Once: Do, for the evaluator. -/
import Derived.Test.YtnnebeidpkaobaaGreatDoorEvPrim1
import Derived.Test.YtnnebeidpkaobaaGreatDoorTrOnce
set_option linter.unusedVariables false
set_option linter.unusedSimpArgs false
set_option linter.unusedSectionVars false
namespace Go.Ev
open Go
set_option linter.unusedSectionVars false
set_option linter.unusedVariables false

section
variable {P : Program} {C : Ctx} {Cm : Com} {β : Bm} {s s' : St} {w : World} {v : EV}

theorem lsetN_one (c : Array Value) (k : Nat) (V : Value) : (lsetN c.toList k [V]).toArray = c.setIfInBounds k V := by
  simp only [lsetN, lset_eq]
  cases c; simp

/-- One cell written. -/
theorem write_cell (h : SInv Cm β s w) {b g off : Nat} {x : EV} {X : Value} {e : Ent} (hw : writeE s b g off [x] = some s') (hx : Rep Cm β x X) (he : β[b]? = some (some e)) :
    g = e.gen ∧ ∃ β', SInv Cm β' s' (w.setCell ⟨e.blk, e.off + off, none⟩ X) ∧ Step Cm β s w Cm β' s' (w.setCell ⟨e.blk, e.off + off, none⟩ X) ∧ (∀ o, w.frozen? ⟨e.blk, o, none⟩ = false) ∧ ∃ y, w.cell? ⟨e.blk, e.off + off, none⟩ = some y := by
  obtain ⟨hg, c, elem, hm, hb1, hb2, hone, β', q1, q2, q3⟩ := writeE_sound h hw (RepL.one hx) he
  have hlt : e.off + off < c.size := by simp at hb1; omega
  rw [lsetN_one] at q1 q2
  refine ⟨hg, β', ?_, ?_, ?_, ?_⟩
  · rw [setCell_eq hm]; exact q1
  · rw [setCell_eq hm]; exact q2
  · intro o; simp [World.frozen?, hm]
  · exact ⟨c[e.off + off], by rw [cell_of hm, Array.getElem?_eq_getElem hlt]⟩

theorem SInv.drew (h : SInv Cm β s w) : SInv Cm β s w.drew ∧ Step Cm β s w Cm β s w.drew :=
  ⟨h.congr rfl, .refl _, .refl _, rfl, rfl, rfl, Nat.le_refl _, fun _ _ _ => rfl, fun _ h => .inl h, fun _ _ h => .inl h, fun _ h => ⟨h, rfl⟩⟩

/-- Two cells read. -/
theorem read_two (h : SInv Cm β s w) {b g off : Nat} {x y : EV} {e : Ent} (hr : readAt s (.ptr b g off) 2 = some [x, y]) (he : β[b]? = some (some e)) :
    g = e.gen ∧ ∃ X Y, w.cell? ⟨e.blk, e.off + off, none⟩ = some X ∧ Rep Cm β x X ∧ w.cell? ⟨e.blk, e.off + off + 1, none⟩ = some Y ∧ Rep Cm β y Y := by
  unfold readAt at hr
  simp only [] at hr
  split at hr
  · rename_i k hk
    obtain ⟨hk, hg⟩ := blk_some hk
    split at hr
    · rename_i hle
      have hok := h.blk b e k he hk
      obtain ⟨c, elem, fr, hm, hfin, hrep, _⟩ := hok.mem
      have hlen := hok.len; have hfn := hok.fin
      have hr := Option.some.inj hr
      have hd := (hrep.drop off).take 2
      rw [hr, List.drop_take, List.take_take, List.drop_drop, show min 2 (e.len - off) = 2 by omega] at hd
      obtain ⟨X, Y, hL, hX, hY⟩ := repl_two rfl hd
      refine ⟨by rw [hok.gen, hg], X, Y, ?_, hX, ?_, hY⟩
      · have : ((c.toList.drop (e.off + off)).take 2)[0]? = some X := by rw [hL]; rfl
        rw [List.getElem?_take, if_pos (by omega), List.getElem?_drop] at this
        rw [cell_of hm]; simpa using this
      · have : ((c.toList.drop (e.off + off)).take 2)[1]? = some Y := by rw [hL]; rfl
        rw [List.getElem?_take, if_pos (by omega), List.getElem?_drop] at this
        rw [cell_of hm]; simpa using this
    · cases hr
  · cases hr
end

/-- Do, not yet done: the lock, the function, the mark, the lock. -/
def onceE (cb : FuncId → Bool) (call : CallE) (args : List EV) (s : St) : Option (EV × St) :=
  match args with
  | [.ptr b g off, .fn (.func h) first cap] =>
    match readAt s (.ptr b g off) 2 with
    | some [.int .u32 d, .int .i32 m] =>
      if d = 0 then
        if m = 0 ∧ cb h = true then
          match writeE s b g (off + 1) [.int .i32 1] with
          | some s1 => match call h (first ++ cap) s1 with
            | some (_, s2) => match readAt s2 (.ptr b g off) 2 with
              | some [.int .u32 _, .int .i32 n] =>
                if n = 1 then
                  match writeE s2 b g off [.int .u32 1] with
                  | some s3 => match writeE s3 b g (off + 1) [.int .i32 0] with
                    | some s4 => some (.tup [], s4)
                    | none => none
                  | none => none
                else none
              | _ => none
            | none => none
          | none => none
        else none
      else some (.tup [], s)
    | _ => none
  | _ => none

/-- A function with a body, that is entered. -/
def HasBody (P : Program) (h : FuncId) : Prop := ∃ fn, P.funcs[h]? = some fn ∧ fn.name ≠ "runtime.NumGoroutine" ∧ fn.body.isSome = true

theorem HasBody.run {P : Program} {h : FuncId} (hb : HasBody P h) (A : Array Value) (w : World) : (callFunc h A).run P w = .ok (.enter h A) w := by
  obtain ⟨fn, hf, hn, hbody⟩ := hb
  unfold callFunc
  simp only [Sem.run_bind, run_program, Result.andThen_ok, hf]
  have hn' : (fn.name == "runtime.NumGoroutine") = false := by simpa using hn
  have hb' : fn.body.isNone = false := by cases hq : fn.body <;> simp_all
  simp [hn', hb']

theorem FRuns.calls {P : Program} {h : FuncId} (hb : HasBody P h) {A : Array Value} {w : World} {R : Value → World → Prop} (hr : FRuns P h A w R) : Calls P h A w fun e w' => ∃ V, e = .returned V ∧ R V w' := by
  rcases hr with ⟨_, _, _, _, hc⟩ | ⟨V, w', hc, _⟩
  · exact hc
  · rw [hb.run] at hc; cases hc

open Go.Proofs in
theorem prim_once {cb : FuncId → Bool} (hcb : ∀ h, cb h = true → HasBody Tryz.prog h) {call : CallE} (hcall : CallOk Tryz.prog call) {args : List EV} {s s' : St} {v : EV} (hop : onceE cb call args s = some (v, s'))
    {Cm : Com} {β : Bm} {w : World} {A : Array Value} (h : SInv Cm β s w) (hr : RepL Cm β args A.toList) : FRuns Tryz.prog 221 A w (Post Cm β s w v s') := by
  have hb221 : HasBody Tryz.prog 221 := ⟨_, Tryz.func221, by decide +kernel, by kernel_rfl⟩
  unfold onceE at hop
  split at hop
  · rename_i b g off hf first cap
    obtain ⟨X, Y, hA, hX, hY⟩ := repl_two rfl hr
    rw [array_of_list hA]
    cases hX with
    | ptr he hge hv =>
      rename_i e Ad
      cases hY with
      | fn hfi hca =>
        rename_i A1 A2
        split at hop
        · rename_i d m hrd
          obtain ⟨hg, U0, U1, c0, r0, c1, r1⟩ := read_two h hrd he
          have hAd := hv hg
          subst hAd
          cases r0; cases r1
          split at hop
          · rename_i hd0
            subst hd0
            split at hop
            · rename_i hm
              obtain ⟨rfl, hcbh⟩ := hm
              split at hop
              · rename_i s1 hw1
                obtain ⟨_, β1, i1, st1, fz1, _⟩ := write_cell h hw1 (.int _ _) he
                split at hop
                · rename_i vv s2 hcl
                  have hbh := hcb hf hcbh
                  have hargs : RepL Cm β1 (first ++ cap) (A1 ++ A2).toList := by
                    rw [Array.toList_append]; exact (hfi.mono st1.com st1.ble).append (hca.mono st1.com st1.ble)
                  have hrun := (hcall hf _ _ _ _ hcl Cm β1 _ _ i1 hargs).calls hbh
                  rw [← Nat.add_assoc] at hrun i1 st1
                  split at hop
                  · rename_i q n hrd2
                    split at hop
                    · rename_i hn1
                      subst hn1
                      split at hop
                      · rename_i s3 hw3
                        split at hop
                        · rename_i s4 hw4
                          cases hop
                          have same : ∀ {Cm2 : Com} {β2 : Bm} {w2 : World}, Step Cm β1 s1 (w.setCell ⟨e.blk, e.off + off + 1, none⟩ (.int .i32 1)) Cm2 β2 s2 w2 → SInv Cm2 β2 s2 w2 → β2[b]? = some (some e) := by
                            intro Cm2 β2 w2 hs hi
                            obtain ⟨e1, he1, hh1⟩ := st1.ble.2 b e he
                            obtain ⟨e2, he2, hh2⟩ := hs.ble.2 b e1 he1
                            obtain ⟨hg2, _⟩ := read_two hi hrd2 he2
                            have : e2 = e := by
                              rcases hh1 with rfl | hh1 <;> rcases hh2 with rfl | hh2
                              · rfl
                              · omega
                              · omega
                              · omega
                            rw [this] at he2; exact he2
                          have hdo := OnceTr.do_gen e.blk (e.off + off) hf A1 A2 w (fun w' => ∃ V, Post Cm β1 s1 (w.setCell ⟨e.blk, e.off + off + 1, none⟩ (.int .i32 1)) vv s2 V w') c0 c1 (fz1 _) (hbh.run _ _)
                            (hrun.mono fun e' w' ⟨V, h1, h2⟩ => ⟨V, h1, V, h2⟩)
                            (fun w' ⟨V, Cm2, β2, p1, p2, p3⟩ => by
                              have he2 := same p2 p1
                              obtain ⟨_, Z0, Z1, z0, r0, z1, r1⟩ := read_two p1 hrd2 he2
                              cases r1
                              obtain ⟨_, _, _, _, fzz, _⟩ := write_cell p1 hw3 (.int _ _) he2
                              exact ⟨⟨_, z0⟩, fzz _, z1, fzz _⟩)
                          refine .inl ⟨_, Tryz.func221, by decide +kernel, by kernel_rfl, hdo.mono fun e' w' ⟨h1, w1, ⟨V, Cm2, β2, p1, p2, p3⟩, h2⟩ => ⟨_, h1, ?_⟩⟩
                          have he2 := same p2 p1
                          obtain ⟨d1, d2⟩ := p1.drew
                          obtain ⟨_, β3, i3, st3, _, _⟩ := write_cell d1 hw3 (.int _ _) he2
                          obtain ⟨e3, he3, hh3⟩ := st3.ble.2 b e he2
                          obtain ⟨hg4, β4, i4, st4, _, _⟩ := write_cell i3 hw4 (.int _ _) he3
                          have he3e : e3 = e := by
                            rcases hh3 with rfl | hh3
                            · rfl
                            · omega
                          subst he3e
                          rw [← Nat.add_assoc] at i4 st4
                          subst h2
                          exact ⟨Cm2, β4, i4, ((((st1.trans p2).trans d2).trans st3).trans st4), .tup (A := #[]) .nil⟩
                        · cases hop
                      · cases hop
                    · cases hop
                  · cases hop
                · cases hop
              · cases hop
            · cases hop
          · rename_i hd0
            cases hop
            refine .inl ⟨_, Tryz.func221, by decide +kernel, by kernel_rfl, ?_⟩
            exact (OnceTr.do_done _ d hd0 _ w c0).mono fun e' w' ⟨h1, h2⟩ => ⟨_, h1, by subst h2; exact post_pure h (.tup (A := #[]) .nil)⟩
        · cases hop
  · cases hop
end Go.Ev
