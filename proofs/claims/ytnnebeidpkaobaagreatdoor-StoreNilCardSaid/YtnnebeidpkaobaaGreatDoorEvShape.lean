/- What is read has its type's shape. -/
import Derived.Test.YtnnebeidpkaobaaGreatDoorEvBridge
set_option linter.unusedVariables false
set_option linter.unusedSimpArgs false
set_option linter.unusedSectionVars false
namespace Go.Ev
open Go
set_option linter.unusedSectionVars false
set_option linter.unusedVariables false

def shapeF (P : Program) (g : TypeId → List EV → Bool) : List Field → List EV → Bool
  | [], cs => cs.isEmpty
  | f :: fs, cs => g f.type (cs.take (P.cellsOf f.type)) && shapeF P g fs (cs.drop (P.cellsOf f.type))

/-- Cells of a type's shape. -/
def shapeD (P : Program) : Nat → TypeId → List EV → Bool
  | 0, _, _ => false
  | d + 1, t, cs => match P.underlying t with
    | some .bool => (match cs with | [.bool _] => true | _ => false)
    | some (.int k) => (match cs with | [.int j n] => j == k && (Lit.int k n).wf | _ => false)
    | some .string => (match cs with | [.str s] => Nat.ble s.size maxLen | _ => false)
    | some (.slice e) => (match cs with
      | [.nilsl] => true
      | [.esl] => true
      | [.sl m c z rows] => Nat.beq m 0 && !c && Nat.beq z (P.cellsOf e) && !rows.isEmpty && Nat.ble rows.length maxLen && rows.all (fun r => Nat.beq r.length z && shapeD P d e r)
      | _ => false)
    | some (.struct fs) => shapeF P (shapeD P d) fs.toList cs
    | _ => false

section
variable {H : Type} {enc : TypeId × Value → H} {P : Program} {W : World} {spare : Nat → Bool} {held : Bool}

def ShapeOk (enc : TypeId × Value → H) (P : Program) (W : World) (spare : Nat → Bool) (held : Bool) (fuel : Nat) (d : Nat) : Prop :=
  ∀ (t : TypeId) (cs : List Value) (x : DataW H × List MemPlace), plainTy P d t = true → DataW.trod enc P W 0 spare held fuel t cs = some x → shapeD P d t (cellsD x.1) = true ∧ (cellsD x.1).length = P.cellsOf t

theorem shape_fields {fuel d : Nat} (hg : ShapeOk enc P W spare held fuel d) {cs : List Value} : ∀ (fs : List Field) (off total : Nat) (xs : List (DataW H × List MemPlace)), plainFields P (plainTy P d) fs off total = true →
    (fs.mapM fun f => DataW.trod enc P W 0 spare held fuel f.type ((cs.drop f.offset).take (P.cellsOf f.type))) = some xs → shapeF P (shapeD P d) fs (flatD (xs.map (·.1))) = true
  | [], off, total, xs, h, hm => by
    simp at hm; subst hm
    simp [shapeF, flatD]
  | f :: fs, off, total, xs, h, hm => by
    simp only [plainFields, Bool.and_eq_true] at h
    obtain ⟨⟨h1, h2⟩, h3⟩ := h
    rw [List.mapM_cons] at hm
    cases hx : DataW.trod enc P W 0 spare held fuel f.type ((cs.drop f.offset).take (P.cellsOf f.type)) with
    | none => rw [hx] at hm; cases hm
    | some x =>
      rw [hx] at hm
      cases hr : (fs.mapM fun f => DataW.trod enc P W 0 spare held fuel f.type ((cs.drop f.offset).take (P.cellsOf f.type))) with
      | none => rw [hr] at hm; cases hm
      | some xs' =>
        rw [hr] at hm
        cases hm
        obtain ⟨r1, r2⟩ := hg _ _ _ h2 hx
        have := shape_fields hg fs _ _ xs' h3 hr
        simp only [List.map_cons, flatD, shapeF, Bool.and_eq_true]
        rw [← r2, List.take_left', List.drop_left']
        · exact ⟨r1, this⟩
        · rfl
        · rfl

theorem trod_shape : ∀ (fuel d : Nat), ShapeOk enc P W spare held fuel d := by
  intro fuel
  induction fuel with
  | zero => intro d t cs x _ h; simp [DataW.trod] at h
  | succ fuel ih =>
    intro d t cs x hp h
    have hlen := trod_rep (fuel + 1) d t cs x hp h
    have hlen : (cellsD x.1).length = P.cellsOf t := by rw [hlen.1.length, hlen.2]
    refine ⟨?_, hlen⟩
    cases d with
    | zero => simp [plainTy] at hp
    | succ d =>
      unfold plainTy at hp
      unfold DataW.trod at h
      unfold shapeD
      cases hu : P.underlying t with
      | none => rw [hu] at hp; cases hp
      | some desc =>
        rw [hu] at hp h
        cases desc <;> simp only [] at hp ⊢ <;> try (cases hp; done)
        case bool =>
          split at h
          case h_1 heq => cases h; rfl
          all_goals first
            | (cases ‹(some TypeDesc.bool : Option TypeDesc) = _›; done)
            | (cases h; done)
        case int k =>
          split at h
          case h_2 heq =>
            cases heq
            split at h
            · rename_i hk
              obtain ⟨rfl, hw⟩ := hk
              cases h; simp [cellsD, hw]
            · cases h
          all_goals first
            | (cases ‹(some (TypeDesc.int k) : Option TypeDesc) = _›; done)
            | (cases h; done)
        case string =>
          split at h
          case h_4 s heq =>
            split at h
            · rename_i hs
              cases h
              simp only [cellsD]
              have : (⟨s.data.toList.toArray⟩ : ByteArray) = s := by cases s; simp
              rw [this]
              exact Nat.ble_eq_true_of_le hs
            · cases h
          all_goals first
            | (cases ‹(some TypeDesc.string : Option TypeDesc) = _›; done)
            | (cases h; done)
        case slice e =>
          simp only [Bool.and_eq_true] at hp
          obtain ⟨⟨h1, h2⟩, h3⟩ := hp
          split at h <;> first
            | (cases ‹(some (TypeDesc.slice e) : Option TypeDesc) = _›; done)
            | (cases h; done)
            | skip
          · cases h; rfl
          · rename_i e' A len cap heq
            cases heq
            simp only [] at h
            split at h
            · rename_i hcond
              cases hm : ((List.range len).mapM fun i => (W.cells? 0 (A.add (i * P.cellsOf e)) (P.cellsOf e)).bind (DataW.trod enc P W 0 spare held fuel e)) with
              | none => rw [hm] at h; cases h
              | some elems =>
                rw [hm] at h
                simp only [Option.bind_some, Option.map_eq_some_iff] at h
                obtain ⟨rest, _, hx⟩ := h
                subst hx
                obtain ⟨g1, g2⟩ := mapM_get hm
                simp at g1
                have hat : ∀ (y : DataW H × List MemPlace), y ∈ elems → shapeD P d e (cellsD y.1) = true ∧ (cellsD y.1).length = P.cellsOf e := fun y hy => by
                  obtain ⟨i, hi⟩ := List.getElem?_of_mem hy
                  have hil : i < len := by rw [g1]; exact (List.getElem?_eq_some_iff.1 hi).1
                  obtain ⟨y', hy', hf⟩ := g2 i i (by simp [hil])
                  rw [hi] at hy'; cases hy'
                  obtain ⟨l, hl, ht⟩ := bind_some hf
                  exact ih d e l y h3 ht
                cases elems with
                | nil => rfl
                | cons x0 xs0 =>
                  simp only [List.map_cons, cellsD]
                  simp only [Bool.and_eq_true]
                  refine ⟨⟨⟨⟨⟨rfl, rfl⟩, ?_⟩, rfl⟩, ?_⟩, ?_⟩
                  · rw [(hat x0 (by simp)).2]; simp
                  · refine Nat.ble_eq_true_of_le ?_
                    rw [rowsD_length]
                    simp only [List.length_cons, List.length_map] at g1 ⊢
                    omega
                  · rw [List.all_eq_true]
                    intro r hr
                    rw [rowsD_map] at hr
                    obtain ⟨dd, hdd, rfl⟩ := List.mem_map.1 hr
                    have : ∃ y ∈ x0 :: xs0, y.1 = dd := by
                      rcases List.mem_cons.1 hdd with rfl | h
                      · exact ⟨x0, by simp, rfl⟩
                      · obtain ⟨y, hy, rfl⟩ := List.mem_map.1 h
                        exact ⟨y, by simp [hy], rfl⟩
                    obtain ⟨y, hy, rfl⟩ := this
                    obtain ⟨q1, q2⟩ := hat y hy
                    rw [q1, q2, (hat x0 (by simp)).2]; simp
            · cases h
        case struct fs =>
          split at h <;> first
            | (cases ‹(some (TypeDesc.struct fs) : Option TypeDesc) = _›; done)
            | (cases h; done)
            | exact (‹∀ (fs_1 : Array Field), some (TypeDesc.struct fs) = some (TypeDesc.struct fs_1) → False› fs rfl).elim
            | skip
          rename_i fs' _ heq
          cases heq
          split at h
          · simp only [Option.map_eq_some_iff] at h
            obtain ⟨xs, hm, hx⟩ := h
            subst hx
            simp only [cellsD]
            exact shape_fields (ih d) fs.toList 0 (P.cellsOf t) xs hp hm
          · cases h
end
end Go.Ev
namespace Go.Ev
open Go
theorem shp_int {P : Program} {d t : Nat} {k : IntKind} {a : EV} (h : shapeD P (d + 1) t [a] = true) (hu : P.underlying t = some (.int k)) : ∃ n, a = .int k n ∧ (Lit.int k n).wf = true := by
  unfold shapeD at h
  rw [hu] at h
  cases a <;> simp at h
  obtain ⟨rfl, h⟩ := h
  exact ⟨_, rfl, h⟩
theorem shp_str {P : Program} {d t : Nat} {a : EV} (h : shapeD P (d + 1) t [a] = true) (hu : P.underlying t = some .string) : ∃ s, a = .str s ∧ s.size ≤ maxLen := by
  unfold shapeD at h
  rw [hu] at h
  cases a <;> first | (simp at h; done) | exact ⟨_, rfl, Nat.le_of_ble_eq_true h⟩
theorem shp_bool {P : Program} {d t : Nat} {a : EV} (h : shapeD P (d + 1) t [a] = true) (hu : P.underlying t = some .bool) : ∃ b, a = .bool b := by
  unfold shapeD at h
  rw [hu] at h
  cases a <;> first | (simp at h; done) | exact ⟨_, rfl⟩
theorem shp_struct {P : Program} {d t : Nat} {fs : Array Field} {cs : List EV} (h : shapeD P (d + 1) t cs = true) (hu : P.underlying t = some (.struct fs)) : shapeF P (shapeD P d) fs.toList cs = true := by
  unfold shapeD at h
  rw [hu] at h
  exact h
theorem shp_cons {P : Program} {g : TypeId → List EV → Bool} {f : Field} {fs : List Field} {cs a b : List EV} {n : Nat} (h : shapeF P g (f :: fs) cs = true) (hn : P.cellsOf f.type = n) (hc : cs = a ++ b) (ha : a.length = n) : g f.type a = true ∧ shapeF P g fs b = true := by
  subst hc
  simp only [shapeF, Bool.and_eq_true, hn] at h
  rw [List.take_left' ha, List.drop_left' ha] at h
  exact h
end Go.Ev
