/- Operations: what they make of related states (9): append, and the builtins together. -/
import Derived.Test.YtnnebeidpkaobaaGreatDoorEvOps8
set_option linter.unusedVariables false
set_option linter.unusedSimpArgs false
set_option linter.unusedSectionVars false
namespace Go.Ev
open Go
set_option linter.unusedSectionVars false
set_option linter.unusedVariables false

section
variable {P : Program} {C : Ctx} {Cm : Com} {β : Bm} {s s' : St} {w : World} {tm : Tm} {a : Act} {v : EV}

theorem flatten_nil_of {α : Type} {rows : List (List α)} (h : rows.length = 0) : rows.flatten = [] := by
  rw [List.eq_nil_of_length_eq_zero h]; rfl

/-- Nothing comes. -/
theorem tail_none {e : TypeId} {j : TI} {X : Value} {rows : List (List EV)} {zeros : Bool} {ts : Array TypeId} (hc : Comes' P C Cm β w j e ts X rows zeros) (h0 : rows.length = 0) {S : Value} {base : Option Addr} {sLen sCap : Nat} (hle : sLen ≤ sCap) :
    (tailS e j.size zeros S X base sLen sCap rows.length).run P w = .ok (.slice base sLen sCap) w := by
  obtain ⟨N, h1, h2⟩ := hc.cells w rfl
  have hN : N.toList = [] := by
    have := h2.length
    rw [flatten_nil_of h0] at this
    exact List.eq_nil_of_length_eq_zero this.symm
  unfold tailS
  simp only []
  rw [if_pos (by omega)]
  simp only [Sem.run_bind, h1, Result.andThen_ok, hN]
  cases base <;> simp [storeCells, h0]

theorem zeroOk_some {j : TI} (h : zeroOk j = true) : ∃ z, zeroE j = some z ∧ z.cells.length = j.size := by
  unfold zeroOk at h
  split at h
  · rename_i z hz; exact ⟨z, hz, Nat.eq_of_beq_eq_true h⟩
  · cases h

theorem zero_size {j : TI} {z : EV} {zv : Value} (hzv : j.zero = some zv) (hz : zeroE j = some z) (hl : z.cells.length = j.size) : zv.cells.size = j.size := by
  obtain ⟨zv', h1, h2⟩ := zeroE_some hz
  rw [hzv] at h1; cases h1
  have := (ofZ_cells (Cm := fun _ => none) (β := []) h2).length
  simp at this; omega

theorem cap_ok {a n cp : Nat} (sz : Nat) (h : a + n ≤ cp) : cp * sz ≤ a * sz + n * sz + (cp - (a + n)) * sz := by
  rw [← Nat.add_mul, ← Nat.add_mul]
  exact Nat.mul_le_mul_right _ (by omega)

theorem one_of_cells {cs : List EV} {Cs : List Value} (hr : RepL Cm β cs Cs) (hc : cs.all EV.isCell = true) : ∀ V ∈ Cs, V.oneCell' = true := by
  intro v hv
  obtain ⟨i, hi⟩ := List.getElem?_of_mem hv
  have hic : i < cs.length := by have := (List.getElem?_eq_some_iff.1 hi).1; have := hr.length; omega
  obtain ⟨V, hV, hrV⟩ := hr.get (List.getElem?_eq_getElem hic)
  rw [hi] at hV; cases hV
  exact hrV.oneCell (List.all_eq_true.1 hc _ (List.getElem_mem hic))

theorem mid_take {α : Type} (l N D : List α) {p q : Nat} (h : p + q ≤ l.length) : (((l.take (p + q) ++ N ++ D).toArray.toList).drop p).take (q + N.length) = (l.drop p).take q ++ N := by
  have h1 : (l.take (p + q)).drop p = (l.drop p).take q := by rw [List.drop_take]; congr 1; omega
  have h2 : ((l.drop p).take q).length = q := by simp; omega
  have h3 : (l.take (p + q)).length = p + q := by simp; omega
  simp only [List.append_assoc]
  rw [List.drop_append_of_le_length (by omega), h1, List.take_append, h2]
  rw [List.take_of_length_le (by omega), show q + N.length - q = N.length by omega, List.take_append_of_le_length (Nat.le_refl _), List.take_length]

theorem refsLL_le_of_rep {rows : List (List EV)} {L : List Value} (h : RepL Cm β rows.flatten L) : refsLL rows ≤ β.length := by
  rw [← refsL_flatten]; exact h.refs_le

theorem append_sound (hC : CtxOk P C) (h : SInv Cm β s w) {ts : Array TypeId} {ty : TypeId} {x y : EV} {X Y : Value} (hx : Rep Cm β x X) (hy : Rep Cm β y Y) (hop : appendE C ts.toList x y s = some (v, s')) : BVal P (Builtin.append_ ts ty #[X, Y]) w (Post Cm β s w v s') := by
  unfold appendE at hop
  split at hop
  · rename_i e j he
    obtain ⟨t, ht, he⟩ := bind_some he
    have ht' : ts[0]? = some t := by simpa using ht
    obtain ⟨i, hi, hD, hj⟩ := elemTI_some he
    split at hop
    · rename_i rows hrows
      obtain ⟨zeros, hc⟩ := newRows_sound (P := P) hC h hj (ts := ts) hy hrows
      have pre := fun base sLen sCap => append_pre (ty := ty) hC hi hD hj ht' hc base sLen sCap
      -- the zero row
      split at hop
      · split at hop
        · rename_i h0
          cases hop
          cases hx with
          | esl A c => exact ⟨_, w, by rw [pre, tail_none hc h0 (Nat.zero_le _)], post_pure h (.esl A c)⟩
        · cases hop
      · split at hop
        · rename_i h0
          cases hop
          cases hx
          exact ⟨_, w, by rw [pre, tail_none hc h0 (Nat.le_refl _)], post_pure h .nilsl⟩
        · rename_i h0
          split at hop
          · rename_i hroom
            cases hop
            cases hx
            simp only [Bool.and_eq_true] at hroom
            obtain ⟨z0, hz0, hzl⟩ := zeroOk_some hroom.2
            obtain ⟨cp, c, w', k1, k2, k3, k4, k5, k6, k7, zv, hzv, k8⟩ := tail_new hC hj hz0 hc (base := none) (sLen := 0) (sCap := 0) (by omega) (by simpa using hroom.1) (old := []) (O := #[]) (fun w' _ => by simp [Builtin.firstCells]) .nil
            have hl := rows_flatten_length hc.sz
            refine ⟨_, w', by rw [pre, k2], ?_⟩
            simp only [Nat.zero_add] at k1 k8 ⊢
            exact post_arr h (by simpa using k7) k3 k4 k5 k6 k1 (by rw [hl]; exact Nat.mul_le_mul_right _ k1) (by
              rw [k8, hl, zero_size hzv hz0 hzl]
              have := cap_ok (a := 0) (n := rows.length) (cp := cp) j.size (by omega)
              simpa using this)
          · cases hop
      · rename_i m r z old
        split at hop
        · rename_i h0
          cases hop
          cases hx with
          | sl hcc hcap hclip hsz hr hm hb => exact ⟨_, w, by rw [pre, tail_none hc h0 hcap], post_pure h (.sl hcc hcap hclip hsz hr hm hb)⟩
        · rename_i h0
          split at hop
          · rename_i hcond
            simp only [Bool.and_eq_true, decide_eq_true_eq] at hcond
            obtain ⟨⟨⟨hclip', hz'⟩, hroom⟩, hzo⟩ := hcond
            cases hop
            obtain ⟨z0, hz0, hzl⟩ := zeroOk_some hzo
            cases hx with
            | sl hcc hcap hclip hsz hr hm hb =>
              rename_i blk off cap c0
              have hcapE := hclip hclip'
              obtain ⟨el, fr, hmem⟩ := h.com _ _ hcc
              have hol := rows_flatten_length hsz
              subst hz'
              obtain ⟨cp, c, w', k1, k2, k3, k4, k5, k6, k7, zv, hzv, k8⟩ := tail_new hC hj hz0 hc (base := some ⟨blk, off, none⟩) (sLen := old.length) (sCap := cap) (by omega) hroom (old := old.flatten) (O := c0.extract off (off + old.length * j.size))
                (fun w' hw' => by
                  simp only [Builtin.firstCells]
                  exact (run_loadCells_rep (by rw [hw']; exact hmem) hr hol).1)
                (by rw [← (run_loadCells_rep (P := P) hmem hr hol).2] at hr; exact hr)
              have hl := rows_flatten_length hc.sz
              refine ⟨_, w', by rw [pre, k2], ?_⟩
              have hO := (run_loadCells_rep (P := P) hmem hr hol).2
              have hOs : (c0.extract off (off + old.length * j.size)).size = old.length * j.size := by
                have := congrArg List.length hO
                rw [← hr.length, hol] at this
                simpa only [Array.length_toList] using this
              have hfl : (old ++ rows).flatten = old.flatten ++ rows.flatten := by simp
              refine post_arr h (by rw [hfl]; exact k7) k3 k4 k5 k6 k1 ?_ ?_
              · rw [hfl, List.length_append, hol, hl, ← Nat.add_mul]; exact Nat.mul_le_mul_right _ k1
              · rw [k8, hl, zero_size hzv hz0 hzl, hOs]
                exact cap_ok j.size k1
          · cases hop
      · rename_i b g off len sz
        split at hop
        · rename_i k hk
          obtain ⟨hk, hg⟩ := blk_some hk
          split at hop
          · rename_i h0
            cases hop
            cases hx with
            | sref he' hge hcap hv => exact ⟨_, w, by rw [pre, tail_none hc h0 hcap], post_pure h (.sref he' hge hcap hv)⟩
          · rename_i h0
            split at hop
            · rename_i hcond
              simp only [Bool.and_eq_true, decide_eq_true_eq, Bool.not_eq_true'] at hcond
              obtain ⟨⟨⟨⟨⟨harr, hfrz⟩, hz'⟩, hroom⟩, hzo⟩, hpos⟩ := hcond
              obtain ⟨z0, hz0, hzl⟩ := zeroOk_some hzo
              cases hx with
              | sref he' hge hcap hv =>
                rename_i en A cp0
                have hok := h.blk b en k he' hk
                obtain ⟨rfl, hroomA⟩ := hv (by rw [hok.gen, hg])
                have hroomA := hroomA (by rw [hok.arr]; exact harr)
                have hlen := hok.len; have hfin := hok.fin
                obtain ⟨c0, elem, fr, hmem, hfc, hrep, _, hfr⟩ := hok.mem
                obtain rfl := hfr hfrz
                subst hz'
                have hrl := rows_flatten_length hc.sz
                split at hop
                · rename_i hend
                  split at hop
                  · rename_i hcells
                    simp only [Bool.and_eq_true] at hcells
                    cases hop
                    by_cases hfit : len + rows.length ≤ cp0
                    · -- there is room behind
                      obtain ⟨N, r1, r2⟩ := tail_room (P := P) hC hj hc (S := .slice (some ⟨en.blk, en.off + off, none⟩) len cp0) (A := ⟨en.blk, en.off + off, none⟩) (sLen := len) (sCap := cp0) hfit
                      have hNl := r1.length
                      rw [hrl] at hNl
                      have hmul : (len + rows.length) * j.size ≤ cp0 * j.size := Nat.mul_le_mul_right _ hfit
                      rw [Nat.add_mul] at hmul
                      have hone : ∀ V ∈ N.toList, V.oneCell' = true := one_of_cells r1 hcells.1
                      have hrun := run_storeCells (P := P) (elem := elem) (fr := (0, 0)) (blk := en.blk) (off := en.off + (off + len * j.size)) rfl N.toList 0 w c0 hmem (by rw [← hNl]; have := hroomA.2; omega) hone
                      have hdl : (k.cells.drop off).length = len * j.size := by simp; omega
                      have key := h.turn (e' := ⟨en.blk, en.off + off, en.fin, g + 1, true, (k.cells.drop off ++ rows.flatten).length⟩) (k' := { gen := g + 1, arr := true, frz := false, cells := k.cells.drop off ++ rows.flatten }) he' hk hfrz rfl
                        (keep' := if refsLL rows ≤ b + 1 then s.keep else max s.keep (refsLL rows)) (by split <;> omega) (by have := h.keep; have := refsLL_le_of_rep r1; have := h.len; split <;> omega) (.inr (by rw [hok.gen, hg]; exact Nat.lt_succ_self _)) rfl rfl rfl
                        (by simp only [List.length_append, hdl, hrl]; have := hroomA.2; omega)
                        (by
                          have h1 := hok.refs
                          have h2 := refsL_drop_le k.cells off
                          simp only [refsL_append, refsL_flatten]
                          split <;> omega)
                        (w' := putBlk w en.blk (.cells (lsetN c0.toList (en.off + (off + len * j.size)) N.toList).toArray elem (0, 0))) (putBlk_same (heap_lt hmem)) (by simpa [length_lsetN] using hfc)
                        (by
                          simp only [List.length_append, hdl, hrl]
                          rw [lsetN_eq _ _ _ (by rw [← hNl]; have := hroomA.2; simp; omega)]
                          have hrd : RepL Cm β (k.cells.drop off) ((c0.toList.drop (en.off + off)).take (len * j.size)) := by
                            have := hrep.drop off
                            rw [List.drop_take, List.drop_drop, show en.len - off = len * j.size by omega] at this
                            exact this
                          have hsz0 : en.off + off + len * j.size ≤ c0.toList.length := by have := hroomA.2; simp; omega
                          rw [show en.off + (off + len * j.size) = en.off + off + len * j.size by omega]
                          rw [show ((c0.toList.take (en.off + off + len * j.size) ++ N.toList ++ c0.toList.drop (en.off + off + len * j.size + N.toList.length)).toArray.toList.drop (en.off + off)).take (len * j.size + rows.length * j.size) = (c0.toList.drop (en.off + off)).take (len * j.size) ++ N.toList from by
                            rw [hNl]
                            exact mid_take _ _ _ hsz0]
                          exact hrd.append r1)
                        (.inl rfl) (fun x hx hne => putBlk_ne (fun z => hne z.symm)) (by simp) rfl rfl rfl
                      obtain ⟨k1, k2, k3, k4⟩ := key
                      refine ⟨.slice (some ⟨en.blk, en.off + off, none⟩) (len + rows.length) cp0, _, ?_, Cm, _, by rw [lset_eq]; exact k1, by rw [lset_eq]; exact k2, ?_⟩
                      · rw [pre, r2, Addr.add_none, show en.off + off + len * j.size = en.off + (off + len * j.size) by omega, hrun]
                        rfl
                      · exact .sref k4 (Nat.le_refl _) hfit (fun _ => ⟨rfl, fun _ => ⟨by simp only [List.length_append, hdl, hrl]; omega, by simpa using hroomA.2⟩⟩)
                    · have hdl : (k.cells.drop off).length = len * j.size := by simp; omega
                      have hrd : RepL Cm β (k.cells.drop off) ((c0.toList.drop (en.off + off)).take (len * j.size)) := by
                        have := hrep.drop off
                        rw [List.drop_take, List.drop_drop, show en.len - off = len * j.size by omega] at this
                        exact this
                      obtain ⟨cp, c, w', k1, k2, k3, k4, k5, k6, k7, zv, hzv, k8⟩ := tail_new hC hj hz0 hc (base := some ⟨en.blk, en.off + off, none⟩) (sLen := len) (sCap := cp0) (by omega) hroom (old := k.cells.drop off) (O := c0.extract (en.off + off) (en.off + off + len * j.size))
                        (fun w' hw' => by
                          simp only [Builtin.firstCells]
                          exact (run_loadCells_rep (by rw [hw']; exact hmem) hrd hdl).1)
                        (by rw [(run_loadCells_rep (P := P) hmem hrd hdl).2]; exact hrd)
                      have hO := (run_loadCells_rep (P := P) hmem hrd hdl).2
                      have hOs : (c0.extract (en.off + off) (en.off + off + len * j.size)).size = len * j.size := by
                        have := congrArg List.length hO
                        rw [← hrd.length, hdl] at this
                        simpa only [Array.length_toList] using this
                      have hcs := cap_ok (a := len) (n := rows.length) (cp := cp) j.size k1
                      have hmul : (len + rows.length) * j.size ≤ cp * j.size := Nat.mul_le_mul_right _ k1
                      rw [Nat.add_mul] at hmul
                      have hcsz : cp * j.size ≤ c.size := by rw [k8, hrl, zero_size hzv hz0 hzl, hOs]; exact hcs
                      have key := h.turn (e' := ⟨w.heap.size, 0, c.size, g + 1, true, (k.cells.drop off ++ rows.flatten).length⟩) (k' := { gen := g + 1, arr := true, frz := false, cells := k.cells.drop off ++ rows.flatten }) he' hk hfrz rfl
                        (keep' := if refsLL rows ≤ b + 1 then s.keep else max s.keep (refsLL rows)) (by split <;> omega) (by have := h.keep; have hq := k7.refs_le; rw [refsL_append, refsL_flatten] at hq; have := h.len; split <;> omega) (.inr (by rw [hok.gen, hg]; exact Nat.lt_succ_self _)) rfl rfl rfl
                        (by simp only [List.length_append, hdl, hrl]; omega)
                        (by
                          have h1 := hok.refs
                          have h2 := refsL_drop_le k.cells off
                          simp only [refsL_append, refsL_flatten]
                          split <;> omega)
                        (w' := w') (c' := c) (elem := e) (by rw [k3]; simp) (Nat.le_refl _) (by simpa using k7)
                        (.inr rfl) (fun x hx hne => by rw [k3, Array.getElem?_push, if_neg (by omega)]) (by rw [k3]; simp) k4 k5 k6
                      obtain ⟨q1, q2, q3, q4⟩ := key
                      refine ⟨_, w', by rw [pre, k2], Cm, _, by rw [lset_eq]; exact q1, by rw [lset_eq]; exact q2, ?_⟩
                      exact .sref q4 (Nat.le_refl _) k1 (fun _ => ⟨rfl, fun _ => ⟨by simp only [List.length_append, hdl, hrl]; omega, by simpa using hcsz⟩⟩)
                  · cases hop
                · rename_i hnend
                  split at hop
                  · rename_i hin
                    split at hop
                    · rename_i s1 hw
                      cases hop
                      have hfit : len + rows.length ≤ cp0 := by
                        refine Nat.le_of_mul_le_mul_right (c := j.size) ?_ hpos
                        have := hroomA.1; omega
                      obtain ⟨N, r1, r2⟩ := tail_room (P := P) hC hj hc (S := .slice (some ⟨en.blk, en.off + off, none⟩) len cp0) (A := ⟨en.blk, en.off + off, none⟩) (sLen := len) (sCap := cp0) hfit
                      obtain ⟨_, cc, el2, hm2, hb1, hb2, hone, β', q1, q2, q3⟩ := writeE_sound h hw r1 he'
                      have hrun := run_storeCells (P := P) (elem := el2) (fr := (0, 0)) (blk := en.blk) (off := en.off + (off + len * j.size)) rfl N.toList 0 w cc hm2 (by simpa using hb1) hone
                      refine ⟨.slice (some ⟨en.blk, en.off + off, none⟩) (len + rows.length) cp0, _, ?_, Cm, β', q1, q2, ?_⟩
                      · rw [pre, r2, Addr.add_none, show en.off + off + len * j.size = en.off + (off + len * j.size) by omega, hrun]
                        rfl
                      · obtain ⟨e', h1, h2⟩ := q3.2 _ _ he'
                        refine Rep.sref (e := e') h1 ?_ hfit ?_
                        · rcases h2 with rfl | h2
                          · exact hge
                          · omega
                        · rcases h2 with rfl | h2
                          · intro _; exact ⟨rfl, fun _ => hroomA⟩
                          · intro hh; rw [hok.gen] at h2; omega
                    · cases hop
                  · cases hop
            · cases hop
        · cases hop
      · cases hop
    · cases hop
  · cases hop
end
end Go.Ev
