/- From what a row reads to abstract values, and back. -/
import Derived.Test.YtnnebeidpkaobaaGreatDoorEvEq
import Derived.Below
import Derived.ChangeShapes
import GoSem.ClaimChange
set_option linter.unusedVariables false
set_option linter.unusedSimpArgs false
set_option linter.unusedSectionVars false
namespace Go.Ev
open Go
set_option linter.unusedSectionVars false
set_option linter.unusedVariables false

/-- All memory that is there: it is never written again. -/
def allCom (W : World) : Com := fun b => match W.heap[b]? with
  | some (.cells c _ _) => some c
  | _ => none

theorem inv_all (W : World) : SInv (allCom W) [] { h := [], keep := 0 } W := by
  refine ⟨rfl, fun i e k he => by simp at he, fun b c hc => ?_, fun i j e e' k _ he => by simp at he, fun i e k he => by simp at he, Nat.le_refl _⟩
  unfold allCom at hc
  split at hc
  · rename_i c' el fr hm; cases hc; exact ⟨el, fr, hm⟩
  · cases hc

theorem Post.below {Cm : Com} {W W' : World} {v : EV} {s' : St} {V : Value} (h : Post Cm [] { h := [], keep := 0 } W v s' V W') : RowKit.Below W.heap.size W W' := by
  obtain ⟨Cm', β', p1, p2, p3⟩ := h
  exact ⟨p2.os, p2.tape, p2.output, p2.size, fun k hk => p2.frame k hk Own.bare⟩

section
variable {H : Type}

mutual
/-- The cells of what is read. -/
def cellsD : DataW H → List EV
  | .lit (.bool b) => [.bool b]
  | .lit (.int k n) => [.int k n]
  | .lit (.string l) => [.str ⟨l.toArray⟩]
  | .nil => [.nilsl]
  | .slice elems _ => match elems with
    | [] => [.esl]
    | d :: ds => [.sl 0 false (cellsD d).length (rowsD (d :: ds))]
  | .agg ps => flatD ps
  | _ => []
def rowsD : List (DataW H) → List (List EV)
  | [] => []
  | d :: ds => cellsD d :: rowsD ds
def flatD : List (DataW H) → List EV
  | [] => []
  | d :: ds => cellsD d ++ flatD ds
end

theorem flatD_rows : ∀ ds : List (DataW H), flatD ds = (rowsD ds).flatten
  | [] => by simp [flatD, rowsD]
  | d :: ds => by simp [flatD, rowsD, flatD_rows ds]

theorem rowsD_length : ∀ ds : List (DataW H), (rowsD ds).length = ds.length
  | [] => by simp [rowsD]
  | d :: ds => by simp [rowsD, rowsD_length ds]
end

/-- Types of bools, integers, strings, slices and structs of such. -/
def plainFields (P : Program) (g : TypeId → Bool) : List Field → Nat → Nat → Bool
  | [], off, total => Nat.beq off total
  | f :: fs, off, total => Nat.beq f.offset off && g f.type && plainFields P g fs (off + P.cellsOf f.type) total

def plainTy (P : Program) : Nat → TypeId → Bool
  | 0, _ => false
  | d + 1, t => match P.underlying t with
    | some .bool => Nat.beq (P.cellsOf t) 1
    | some (.int _) => Nat.beq (P.cellsOf t) 1
    | some .string => Nat.beq (P.cellsOf t) 1
    | some (.slice e) => Nat.beq (P.cellsOf t) 1 && Nat.ble 1 (P.cellsOf e) && plainTy P d e
    | some (.struct fs) => plainFields P (plainTy P d) fs.toList 0 (P.cellsOf t)
    | _ => false

section
variable {H : Type} {enc : TypeId × Value → H} {P : Program} {W : World} {spare : Nat → Bool} {held : Bool}

def ReadOk (enc : TypeId × Value → H) (P : Program) (W : World) (spare : Nat → Bool) (held : Bool) (fuel : Nat) (g : TypeId → Bool) : Prop :=
  ∀ (t : TypeId) (cs : List Value) (x : DataW H × List MemPlace), g t = true → DataW.trod enc P W 0 spare held fuel t cs = some x → RepL (allCom W) [] (cellsD x.1) cs ∧ cs.length = P.cellsOf t

theorem mapM_get {α β : Type} {f : α → Option β} : ∀ {l : List α} {r : List β}, l.mapM f = some r → l.length = r.length ∧ ∀ (i : Nat) (a : α), l[i]? = some a → ∃ b, r[i]? = some b ∧ f a = some b
  | [], r, h => by simp at h; subst h; simp
  | a :: l, r, h => by
    rw [List.mapM_cons] at h
    cases hf : f a with
    | none => rw [hf] at h; cases h
    | some b =>
      rw [hf] at h
      cases hm : l.mapM f with
      | none => rw [hm] at h; cases h
      | some r' =>
        rw [hm] at h
        cases h
        obtain ⟨h1, h2⟩ := mapM_get hm
        refine ⟨by simp [h1], fun i a' ha => ?_⟩
        cases i with
        | zero => simp at ha; subst ha; exact ⟨b, rfl, hf⟩
        | succ i => simp at ha; exact h2 i a' ha

theorem cells_read {base : Nat} {A : Addr} {n : Nat} {l : List Value} (h : W.cells? base A n = some l) (hn : 0 < n) : A.spot = none ∧ l.length = n ∧ ∃ c el fr, W.heap[A.block]? = some (.cells c el fr) ∧ A.off + n ≤ c.size ∧ l = (c.toList.drop A.off).take n := by
  unfold World.cells? at h
  split at h
  · obtain ⟨h1, h2⟩ := mapM_get h
    simp at h1
    obtain ⟨v0, _, hv0⟩ := h2 0 0 (by simp [hn])
    have hs : A.spot = none := by
      rw [show A.add 0 = A by simp [Addr.add]] at hv0
      unfold World.cell? at hv0
      split at hv0
      · split at hv0
        · cases hv0
        · rename_i hsp
          simpa using hsp
      · cases hv0
    have hA : ∀ i, (A.add i) = ⟨A.block, A.off + i, none⟩ := fun i => by
      obtain ⟨b, o, sp⟩ := A
      simp only at hs
      subst hs
      exact Addr.add_none b o i
    rw [hA] at hv0
    unfold World.cell? at hv0
    simp only at hv0
    split at hv0
    · rename_i c el fr hm
      have hget : ∀ i, i < n → ∃ v, l[i]? = some v ∧ c[A.off + i]? = some v := fun i hi => by
        obtain ⟨v, hv, hc⟩ := h2 i i (by simp [hi])
        refine ⟨v, hv, ?_⟩
        rw [hA] at hc
        unfold World.cell? at hc
        simpa [hm] using hc
      have hsz : A.off + n ≤ c.size := by
        obtain ⟨v, _, hc⟩ := hget (n - 1) (by omega)
        have := (Array.getElem?_eq_some_iff.1 hc).1
        omega
      refine ⟨hs, h1.symm, c, el, fr, hm, hsz, List.ext_getElem? fun i => ?_⟩
      by_cases hi : i < n
      · obtain ⟨v, hv, hc⟩ := hget i hi
        rw [hv, List.getElem?_take, if_pos hi, List.getElem?_drop]
        simpa using hc.symm
      · rw [List.getElem?_eq_none (by omega), List.getElem?_take, if_neg hi]
    · cases hv0
  · cases h

theorem trod_fields {fuel : Nat} {g : TypeId → Bool} (hg : ReadOk enc P W spare held fuel g) {cs : List Value} : ∀ (fs : List Field) (off total : Nat) (xs : List (DataW H × List MemPlace)), plainFields P g fs off total = true → total = cs.length →
    (fs.mapM fun f => DataW.trod enc P W 0 spare held fuel f.type ((cs.drop f.offset).take (P.cellsOf f.type))) = some xs → RepL (allCom W) [] (flatD (xs.map (·.1))) (cs.drop off)
  | [], off, total, xs, h, ht, hm => by
    simp at hm; subst hm
    have : off = total := Nat.eq_of_beq_eq_true h
    rw [this, ht, List.drop_length]
    simpa [flatD] using RepL.nil
  | f :: fs, off, total, xs, h, ht, hm => by
    simp only [plainFields, Bool.and_eq_true] at h
    obtain ⟨⟨h1, h2⟩, h3⟩ := h
    have h1 : f.offset = off := Nat.eq_of_beq_eq_true h1
    rw [List.mapM_cons] at hm
    cases hx : DataW.trod enc P W 0 spare held fuel f.type ((cs.drop f.offset).take (P.cellsOf f.type)) with
    | none => rw [hx] at hm; cases hm
    | some x =>
      rw [hx] at hm
      cases hr : (fs.mapM fun f => DataW.trod enc P W 0 spare held fuel f.type ((cs.drop f.offset).take (P.cellsOf f.type))) with
      | none => rw [hr] at hm; cases hm
      | some xs' =>
        rw [hr] at hm
        cases hm
        obtain ⟨r1, r2⟩ := hg _ _ _ h2 hx
        have := trod_fields hg fs _ _ xs' h3 ht hr
        simp only [List.map_cons, flatD]
        have hsplit : cs.drop off = (cs.drop off).take (P.cellsOf f.type) ++ cs.drop (off + P.cellsOf f.type) := by
          rw [← List.drop_drop, List.take_append_drop]
        rw [hsplit]
        rw [h1] at r1
        exact r1.append this

theorem rowsD_map : ∀ l : List (DataW H), rowsD l = l.map cellsD
  | [] => rfl
  | d :: l => by simp [rowsD, rowsD_map l]

theorem rows_rep {Cm : Com} {β : Bm} {n : Nat} : ∀ (rs : List (List EV)) (L : List Value), (∀ (i : Nat) (r : List EV), rs[i]? = some r → RepL Cm β r ((L.drop (i * n)).take n) ∧ r.length = n) → RepL Cm β rs.flatten (L.take (rs.length * n))
  | [], L, _ => by simpa using RepL.nil
  | r :: rs, L, h => by
    obtain ⟨h1, h2⟩ := h 0 r rfl
    have h3 := rows_rep rs (L.drop n) fun i r' hr' => by
      have := h (i + 1) r' (by simpa using hr')
      rw [List.drop_drop, show n + i * n = (i + 1) * n by rw [Nat.add_mul]; omega]
      exact this
    rw [List.flatten_cons, List.length_cons, Nat.add_mul, Nat.one_mul, Nat.add_comm, List.take_add]
    simp at h1
    exact h1.append h3

/-- What is read is there. -/
theorem trod_rep : ∀ (fuel d : Nat), ReadOk enc P W spare held fuel (plainTy P d) := by
  intro fuel
  induction fuel with
  | zero => intro d t cs x _ h; simp [DataW.trod] at h
  | succ fuel ih =>
    intro d t cs x hp h
    cases d with
    | zero => simp [plainTy] at hp
    | succ d =>
      unfold plainTy at hp
      unfold DataW.trod at h
      cases hu : P.underlying t with
      | none => rw [hu] at hp; cases hp
      | some desc =>
        rw [hu] at hp h
        cases desc <;> simp only [] at hp <;> try (cases hp; done)
        case bool =>
          have h1 := Nat.eq_of_beq_eq_true hp
          split at h
          case h_1 heq => cases h; exact ⟨.one (.bool _), by simp [h1]⟩
          all_goals first
            | (cases ‹(some TypeDesc.bool : Option TypeDesc) = _›; done)
            | (cases h; done)
        case int k =>
          have h1 := Nat.eq_of_beq_eq_true hp
          split at h
          case h_2 heq =>
            cases heq
            split at h
            · rename_i hk
              obtain ⟨rfl, _⟩ := hk
              cases h; exact ⟨.one (.int _ _), by simp [h1]⟩
            · cases h
          all_goals first
            | (cases ‹(some (TypeDesc.int k) : Option TypeDesc) = _›; done)
            | (cases h; done)
        case string =>
          have h1 := Nat.eq_of_beq_eq_true hp
          split at h
          case h_4 s heq =>
            split at h
            · cases h
              refine ⟨.one ?_, by simp [h1]⟩
              have : (⟨s.data.toList.toArray⟩ : ByteArray) = s := by cases s; simp
              rw [this]; exact .str s
            · cases h
          all_goals first
            | (cases ‹(some TypeDesc.string : Option TypeDesc) = _›; done)
            | (cases h; done)
        case slice e =>
          simp only [Bool.and_eq_true] at hp
          obtain ⟨⟨h1, h2⟩, h3⟩ := hp
          have h1 := Nat.eq_of_beq_eq_true h1
          have h2 : 1 ≤ P.cellsOf e := Nat.le_of_ble_eq_true h2
          split at h <;> first
            | (cases ‹(some (TypeDesc.slice e) : Option TypeDesc) = _›; done)
            | (cases h; done)
            | skip
          · cases h
            exact ⟨.one .nilsl, by simp [h1]⟩
          · rename_i e' A len cap heq
            cases heq
            simp only [] at h
            split at h
            · rename_i hcond
              cases hm : ((List.range len).mapM fun i => (W.cells? 0 (A.add (i * P.cellsOf e)) (P.cellsOf e)).bind (DataW.trod enc P W 0 spare held fuel e)) with
              | none => rw [hm] at h; cases h
              | some elems =>
                rw [hm] at h
                simp only [Option.bind_some, Option.map_eq_some_iff] at h
                obtain ⟨rest, _, hx⟩ := h
                subst hx
                obtain ⟨g1, g2⟩ := mapM_get hm
                simp at g1
                refine ⟨?_, by simp [h1]⟩
                cases hel : elems with
                | nil =>
                  have : len = 0 := by rw [g1, hel]; rfl
                  subst this
                  exact .one (.esl A cap)
                | cons x0 xs0 =>
                  have hlen : 0 < len := by rw [g1, hel]; simp
                  -- each element
                  have hat : ∀ (i : Nat) (y : DataW H × List MemPlace), elems[i]? = some y → ∃ l, W.cells? 0 (A.add (i * P.cellsOf e)) (P.cellsOf e) = some l ∧ RepL (allCom W) [] (cellsD y.1) l ∧ l.length = P.cellsOf e := fun i y hy => by
                    have hi : i < len := by rw [g1]; exact (List.getElem?_eq_some_iff.1 hy).1
                    obtain ⟨y', hy', hf⟩ := g2 i i (by simp [hi])
                    rw [hy] at hy'; cases hy'
                    obtain ⟨l, hl, ht⟩ := bind_some hf
                    obtain ⟨r1, r2⟩ := ih d e l y h3 ht
                    exact ⟨l, hl, r1, r2⟩
                  obtain ⟨l0, hl0, _, _⟩ := hat 0 x0 (by rw [hel]; rfl)
                  obtain ⟨hs, _, c, el, fr, hmem, _, _⟩ := cells_read hl0 (by omega)
                  rw [show A.add (0 * P.cellsOf e) = A by simp [Addr.add]] at hs hmem
                  have hA : ∀ i, A.add i = ⟨A.block, A.off + i, none⟩ := fun i => by
                    obtain ⟨b, o, sp⟩ := A
                    simp only at hs
                    subst hs
                    exact Addr.add_none b o i
                  have hAA : A = ⟨A.block, A.off, none⟩ := by
                    obtain ⟨b, o, sp⟩ := A
                    simp only at hs
                    subst hs; rfl
                  have hrows : ∀ (i : Nat) (r : List EV), (rowsD (elems.map (·.1)))[i]? = some r → RepL (allCom W) [] r (((c.toList.drop A.off).drop (i * P.cellsOf e)).take (P.cellsOf e)) ∧ r.length = P.cellsOf e := fun i r hr => by
                    rw [rowsD_map, List.getElem?_map, List.getElem?_map] at hr
                    cases hy : elems[i]? with
                    | none => rw [hy] at hr; cases hr
                    | some y =>
                      rw [hy] at hr
                      simp only [Option.map_some, Option.some.injEq] at hr
                      subst hr
                      obtain ⟨l, hl, r1, r2⟩ := hat i y hy
                      obtain ⟨_, _, c', el', fr', hm', _, hll⟩ := cells_read hl (by omega)
                      rw [hA] at hm' hll
                      rw [hmem] at hm'
                      cases hm'
                      rw [List.drop_drop, ← hll]
                      exact ⟨r1, by rw [r1.length, r2]⟩
                  have hrl : (rowsD (elems.map (·.1))).length = len := by rw [rowsD_length, List.length_map, g1]
                  have hfl := rows_rep _ _ hrows
                  rw [hrl] at hfl
                  have hsz0 : (cellsD x0.1).length = P.cellsOf e := (hrows 0 _ (by rw [hel]; rfl)).2
                  have hcm : allCom W A.block = some c := by unfold allCom; rw [hmem]
                  have hz : refsLL (rowsD (elems.map (·.1))) = 0 := by
                    rw [← refsL_flatten]; have := hfl.refs_le; simpa using this
                  have := Rep.sl (Cm := allCom W) (β := []) (m := 0) (clip := false) (cap := cap) hcm (by rw [hrl]; exact hcond.2.1) (by simp) (fun r hr => by
                    obtain ⟨i, hi⟩ := List.getElem?_of_mem hr
                    exact (hrows i r hi).2) (by rw [hrl]; exact hfl) (by rw [hz]; exact Nat.le_refl _) (Nat.zero_le _)
                  rw [hrl, ← hAA, hel] at this
                  simp only [List.map_cons, rowsD] at this
                  rw [hAA]
                  rw [← hAA]
                  have hgoal : cellsD (DataW.slice ((x0 :: xs0).map (·.1)) (rest.map (·.1))) = [.sl 0 false (P.cellsOf e) (cellsD x0.1 :: rowsD (xs0.map (·.1)))] := by
                    simp only [List.map_cons, cellsD, rowsD, hsz0]
                  show RepL (allCom W) [] (cellsD (DataW.slice ((x0 :: xs0).map (·.1)) (rest.map (·.1)))) _
                  rw [hgoal]
                  exact .one this
            · cases h
        case struct fs =>
          split at h <;> first
            | (cases ‹(some (TypeDesc.struct fs) : Option TypeDesc) = _›; done)
            | (cases h; done)
            | exact (‹∀ (fs_1 : Array Field), some (TypeDesc.struct fs) = some (TypeDesc.struct fs_1) → False› fs rfl).elim
            | skip
          rename_i fs' _ heq
          cases heq
          split at h
          · rename_i hl
            simp only [Option.map_eq_some_iff] at h
            obtain ⟨xs, hm, hx⟩ := h
            subst hx
            refine ⟨?_, hl⟩
            have := trod_fields (ih d) fs.toList 0 (P.cellsOf t) xs hp hl.symm hm
            simpa [cellsD] using this
          · cases h
end
end Go.Ev
