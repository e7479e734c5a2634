/- Operations: what they make of related states (7): builtins. -/
import Derived.Test.YtnnebeidpkaobaaGreatDoorEvOps6
set_option linter.unusedVariables false
set_option linter.unusedSimpArgs false
set_option linter.unusedSectionVars false
namespace Go.Ev
open Go
set_option linter.unusedSectionVars false

section
variable {P : Program} {C : Ctx} {Cm : Com} {β : Bm} {s s' : St} {w : World} {tm : Tm} {a : Act} {v : EV}

/-- What a builtin comes to. -/
def BVal (P : Program) (x : Sem Value) (w : World) (R : Value → World → Prop) : Prop := ∃ V w', x.run P w = .ok V w' ∧ R V w'

theorem lenE_rep {x : EV} {X : Value} {n : Nat} (hx : Rep Cm β x X) (h : lenE x = some n) : (∃ b c, X = .slice b n c) ∨ (∃ s, x = .str s ∧ X = .string s ∧ n = s.size) := by
  cases hx <;> simp [lenE] at h
  · exact .inr ⟨_, rfl, rfl, h.symm⟩
  · exact .inl ⟨_, _, by rw [h]⟩
  · exact .inl ⟨_, _, by rw [h]⟩
  · exact .inl ⟨_, _, by rw [h]⟩
  · exact .inl ⟨_, _, by rw [h]⟩

theorem len_sound (hC : CtxOk P C) (h : SInv Cm β s w) {ts : Array TypeId} {ty : TypeId} {x : EV} {X : Value} (hx : Rep Cm β x X) (hop : builtinE C .len ts.toList [x] s = some (v, s')) : BVal P (Builtin.len_ ts ty #[X]) w (Post Cm β s w v s') := by
  simp only [builtinE] at hop
  split at hop
  · rename_i i hi
    obtain ⟨t, ht, hi⟩ := bind_some hi
    have ht' : ts[0]? = some t := by simpa using ht
    have hu := run_under (w := w) hC hi
    generalize hD : i.desc = D at hop hu
    split at hop
    · cases hop
      exact ⟨_, w, by simp [Builtin.len_, ht', hu, goInt], post_pure h (.int _ _)⟩
    · cases hop; cases hx
      exact ⟨_, w, by simp [Builtin.len_, ht', hu, goInt], post_pure h (.int _ _)⟩
    · cases hop
    · rename_i hns
      simp only [Option.map_eq_some_iff] at hop
      obtain ⟨n, hn, he⟩ := hop
      cases he
      rcases lenE_rep hx hn with ⟨b, c, rfl⟩ | ⟨s0, rfl, _⟩
      · exact ⟨_, w, by simp [Builtin.len_, ht', hu, goInt], post_pure h (.int _ _)⟩
      · exact (hns _ rfl).elim
    · cases hop
  · cases hop

theorem maxE_sound {m : Bool} (h : SInv Cm β s w) : ∀ {rest : List EV} {x : EV} {X : Value} {Rest : List Value}, Rep Cm β x X → RepL Cm β rest Rest → maxE m x rest = some v → ∃ V, (Rest.foldlM (if m then Builtin.max2 else Builtin.min2) X).run P w = .ok V w ∧ Rep Cm β v V := by
  intro rest
  induction rest with
  | nil => intro x X Rest hx hr hm; cases hr; simp [maxE] at hm; subst hm; exact ⟨X, by simp, hx⟩
  | cons y ys ih =>
    intro x X Rest hx hr hm
    cases hr with
    | cons hy ht =>
      unfold maxE at hm
      split at hm
      · rename_i heq; cases heq
      · rename_i k n j q rest heq
        cases heq
        have e1 := rep_int hx; have e2 := rep_int hy
        subst e1; subst e2
        obtain ⟨V, h1, h2⟩ := ih (Rep.int k _) ht hm
        refine ⟨V, ?_, h2⟩
        rw [List.foldlM_cons, Sem.run_bind]
        cases m
        · simpa [Builtin.min2] using h1
        · simpa [Builtin.max2] using h1
      · cases hm

theorem rowsOf_take {z : Nat} {rows : List (List EV)} (hz : ∀ r ∈ rows, r.length = z) {n : Nat} (hn : n ≤ rows.length) : (rows.take n).flatten.length = n * z := by
  rw [rows_flatten_length (sz := z) (fun r hr => hz r (List.mem_of_mem_take hr))]
  simp; rw [Nat.min_eq_left hn]

/-- The first elements' cells of what is copied or appended. -/
theorem firstCells_sound (h : SInv Cm β s w) {x : EV} {X : Value} (hx : Rep Cm β x X) {rows : List (List EV)} {z : Nat} (hz : x.szIs z = true) (hrows : srcRows s x = some rows) :
    (∀ r ∈ rows, r.length = z) ∧ (Builtin.lenOf X).run P w = .ok rows.length w ∧ ∀ n, n ≤ rows.length → ∀ w' : World, w'.heap = w.heap → ∃ N, (Builtin.firstCells z n X).run P w' = .ok N w' ∧ RepL Cm β (rows.take n).flatten N.toList := by
  by_cases hstr : ∃ b, x = .str b
  · obtain ⟨b, rfl⟩ := hstr
    simp only [srcRows, Option.some.injEq] at hrows
    subst hrows
    cases hx
    have hz1 : z = 1 := by simpa [EV.szIs] using hz
    subst hz1
    have hb : b.data.size = b.size := rfl
    refine ⟨by intro r hr; simp [bytesRows] at hr; obtain ⟨q, _, rfl⟩ := hr; rfl, by simp [Builtin.lenOf, bytesRows, hb], fun n hn w' hw' => ⟨(b.extract 0 n).data.map fun q => Value.int .u8 q.toNat, by unfold Builtin.firstCells; simp, ?_⟩⟩
    have hle : n ≤ b.size := by simpa [bytesRows, hb] using hn
    have e1 : ((b.extract 0 n).data.map fun q => Value.int .u8 q.toNat).toList = (b.data.toList.take n).map fun q => Value.int .u8 q.toNat := by
      rw [Array.toList_map, ByteArray.data_extract, Array.toList_extract, List.extract_eq_take_drop]
      simp
    rw [e1]
    unfold bytesRows
    rw [← List.map_take]
    generalize b.data.toList.take n = L
    induction L with
    | nil => exact .nil
    | cons q L ih => exact .cons (.int _ _) ih
  · have hr : rowsOf s x = some rows := by
      unfold srcRows at hrows
      split at hrows
      · exact absurd ⟨_, rfl⟩ hstr
      · exact hrows
    obtain ⟨g1, g2⟩ := rows_mem h hx hr hz
    refine ⟨g1, ?_, ?_⟩
    · rcases g2 with ⟨rfl, c, rfl | ⟨A, rfl⟩⟩ | ⟨blk, off, cap, c, elem, fr, rfl, hm, hcap, hrep⟩ <;> simp [Builtin.lenOf]
    · intro n hn w' hw'
      rcases g2 with ⟨rfl, c, rfl | ⟨A, rfl⟩⟩ | ⟨blk, off, cap, c, elem, fr, rfl, hm, hcap, hrep⟩
      · exact ⟨#[], by simp [Builtin.firstCells], by simpa using RepL.nil⟩
      · obtain rfl : n = 0 := by simpa using hn
        exact ⟨#[], by simp [Builtin.firstCells, loadCells, loadCellsFrom], by simpa using RepL.nil⟩
      · have hfl := rowsOf_take g1 hn
        have hrep' : RepL Cm β (rows.take n).flatten ((c.toList.drop off).take (n * z)) := by
          rw [flatten_take _ _ g1]
          have := hrep.take (n * z)
          rwa [List.take_take, show min (n * z) (rows.length * z) = n * z from Nat.min_eq_left (Nat.mul_le_mul_right _ hn)] at this
        obtain ⟨k1, k2⟩ := run_loadCells_rep (P := P) (w := w') (by rw [hw']; exact hm) hrep' hfl
        exact ⟨_, by simpa [Builtin.firstCells] using k1, by rw [k2]; exact hrep'⟩

theorem lenS_rep {x : EV} {X : Value} {n : Nat} (hx : Rep Cm β x X) (h : lenS x = some n) : ∃ b c, X = .slice b n c := by
  unfold lenS at h
  split at h
  · cases h
  · rename_i hns
    rcases lenE_rep hx h with h1 | ⟨s0, rfl, _⟩
    · exact h1
    · exact (hns _ rfl).elim

theorem copy_sound (hC : CtxOk P C) (h : SInv Cm β s w) {ts : Array TypeId} {ty : TypeId} {x y : EV} {X Y : Value} (hx : Rep Cm β x X) (hy : Rep Cm β y Y) (hop : copyE C ts.toList x y s = some (v, s')) : BVal P (Builtin.copy_ ts ty #[X, Y]) w (Post Cm β s w v s') := by
  unfold copyE at hop
  split at hop
  · rename_i e j he
    obtain ⟨t, ht, he⟩ := bind_some he
    have ht' : ts[0]? = some t := by simpa using ht
    obtain ⟨i, hi, hD, hj⟩ := elemTI_some he
    split at hop
    · rename_i hsz
      simp only [Bool.and_eq_true] at hsz
      split at hop
      · rename_i rows d hr hd
        obtain ⟨g1, g2, g3⟩ := firstCells_sound (P := P) h hy hsz.2 hr
        obtain ⟨N, k1, k2⟩ := g3 (min rows.length d) (Nat.min_le_left _ _) w rfl
        obtain ⟨base, c, rfl⟩ := lenS_rep hx hd
        have hrun : (Builtin.copy_ ts ty #[.slice base d c, Y]).run P w = ((match (generalizing := false) base with | some a => storeCells a N.toList | none => pure () : Sem Unit).run P w).andThen fun _ w' => .ok (goInt ((min rows.length d : Nat) : Int)) w' := by
          unfold Builtin.copy_
          simp only [List.getElem?_toArray, List.getElem?_cons_zero, List.getElem?_cons_succ, ht', Sem.run_bind, run_under hC hi, hD, Result.andThen_ok, g2, run_size hC hj]
          rw [show Nat.min rows.length d = min rows.length d from rfl, k1]
          generalize min rows.length d = q
          cases base <;> simp
        have hNl := k2.length
        rw [rowsOf_take g1 (Nat.min_le_left _ _)] at hNl
        split at hop
        · rename_i h0
          cases hop
          rw [h0, Nat.zero_mul] at hNl
          have hN : N.toList = [] := List.eq_nil_of_length_eq_zero hNl.symm
          refine ⟨goInt 0, w, ?_, post_pure h (.int _ _)⟩
          rw [hrun, hN, h0]
          cases base <;> simp [storeCells]
        · split at hop
          · rename_i b g off n sz
            split at hop
            · rename_i s1 hw
              cases hop
              cases hx with
              | sref he hge hcap hv =>
                rename_i en A
                obtain ⟨hg, cc, elem, hm, hb1, hb2, hone, β', q1, q2, q3⟩ := writeE_sound h hw k2 he
                obtain ⟨rfl, _⟩ := hv hg
                refine ⟨goInt ((min rows.length d : Nat) : Int), _, ?_, Cm, β', q1, q2, .int _ _⟩
                rw [hrun]
                have := run_storeCells (P := P) (elem := elem) (fr := (0, 0)) (blk := en.blk) (off := en.off + off) rfl N.toList 0 w cc hm (by simpa using hb1) hone
                rw [this]
                simp
            · cases hop
          · cases hop
      · cases hop
    · cases hop
  · cases hop

theorem clear_sound (hC : CtxOk P C) (h : SInv Cm β s w) {ts : Array TypeId} {ty t : TypeId} (ht : ts[0]? = some t) {x : EV} {X : Value} (hx : Rep Cm β x X) (hop : clearE C t x s = some (v, s')) : BVal P (Builtin.clear_ ts ty #[X]) w (Post Cm β s w v s') := by
  unfold clearE at hop
  split at hop
  · rename_i e j n he hn
    obtain ⟨i, hi, hD, hj⟩ := elemTI_some he
    obtain ⟨base, c, rfl⟩ := lenS_rep hx hn
    split at hop
    · rename_i h0
      cases hop
      subst h0
      refine ⟨.tuple #[], w, ?_, post_pure h (.tup (A := #[]) .nil)⟩
      unfold Builtin.clear_
      cases base <;> simp [ht, run_under hC hi, hD]
    · rename_i hn0
      split at hop
      · rename_i b g off n' sz z hz
        split at hop
        · rename_i hsz
          split at hop
          · rename_i s1 hw
            cases hop
            obtain ⟨zv, hzv, hz⟩ := zeroE_some hz
            have hzr : RepL Cm β z.cells zv.cells.toList := ofZ_cells hz
            have hzl := hzr.length
            simp only [Array.length_toList] at hzl
            cases hx with
            | sref he' hge hcap hv =>
              rename_i en A
              have hrr : RepL Cm β (List.replicate n z.cells).flatten (Builtin.zeroCells zv.cells n).toList := by
                unfold Builtin.zeroCells
                rw [range_zero zv.cells.size n zv.cells rfl]
                exact hzr.flatten_replicate n
              obtain ⟨hg, cc, elem, hm, hb1, hb2, hone, β', q1, q2, q3⟩ := writeE_sound h hw hrr he'
              obtain ⟨rfl, _⟩ := hv hg
              refine ⟨.tuple #[], _, ?_, Cm, β', q1, q2, .tup (A := #[]) .nil⟩
              have := run_storeCells (P := P) (elem := elem) (fr := (0, 0)) (blk := en.blk) (off := en.off + off) rfl (Builtin.zeroCells zv.cells n).toList 0 w cc hm (by simpa using hb1) hone
              unfold Builtin.clear_
              obtain ⟨n1, rfl⟩ : ∃ n1, n = n1 + 1 := ⟨n - 1, by omega⟩
              simp only [List.getElem?_toArray, List.getElem?_cons_zero, ht, Sem.run_bind, run_under hC hi, hD, Result.andThen_ok, run_zero hC hj hzv, this]
              simp
          · cases hop
        · cases hop
      · cases hop
  · cases hop
end
end Go.Ev
