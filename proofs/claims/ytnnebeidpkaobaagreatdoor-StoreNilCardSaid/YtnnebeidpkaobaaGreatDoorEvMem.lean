/- Steps of the abstract heap and of the world, side by side. -/
import Derived.Test.YtnnebeidpkaobaaGreatDoorEvRep
set_option linter.unusedVariables false
set_option linter.unusedSimpArgs false
set_option linter.unusedSectionVars false
namespace Go.Ev
open Go
set_option linter.unusedSectionVars false

theorem lsetN_get {α : Type} : ∀ (xs l : List α) (n i : Nat), n + xs.length ≤ l.length → (lsetN l n xs)[i]? = if n ≤ i ∧ i < n + xs.length then xs[i - n]? else l[i]?
  | [], l, n, i, _ => by rw [lsetN, if_neg (by simp only [List.length_nil]; omega)]
  | x :: xs, l, n, i, h => by
    simp only [List.length_cons] at h ⊢
    rw [lsetN, lset_eq, lsetN_get xs _ (n + 1) i (by simp; omega), List.getElem?_set]
    by_cases h1 : i = n
    · subst h1
      rw [if_neg (by omega), if_pos rfl, if_pos (by omega), if_pos ⟨Nat.le_refl _, by omega⟩]
      simp
    · by_cases h2 : n + 1 ≤ i ∧ i < n + 1 + xs.length
      · rw [if_pos h2, if_pos (by omega), show i - n = (i - (n + 1)) + 1 by omega]; simp
      · rw [if_neg h2, if_neg (fun z => h1 z.symm), if_neg (by omega)]

theorem lsetN_eq {α : Type} (xs l : List α) (n : Nat) (h : n + xs.length ≤ l.length) : lsetN l n xs = l.take n ++ xs ++ l.drop (n + xs.length) := by
  refine List.ext_getElem? fun i => ?_
  rw [lsetN_get xs l n i h, List.getElem?_append, List.getElem?_append]
  have e1 : (l.take n).length = n := by simp; omega
  have e2 : (l.take n ++ xs).length = n + xs.length := by rw [List.length_append, e1]
  rw [e1, e2]
  by_cases h1 : i < n
  · rw [if_neg (by omega), if_pos (by omega), if_pos h1, List.getElem?_take, if_pos h1]
  · by_cases h2 : i < n + xs.length
    · rw [if_pos (by omega), if_pos h2, if_neg h1]
    · rw [if_neg (by omega), if_neg h2, List.getElem?_drop]
      congr 1; omega

theorem length_lsetN {α : Type} : ∀ (xs l : List α) (n : Nat), (lsetN l n xs).length = l.length
  | [], l, n => by simp [lsetN]
  | x :: xs, l, n => by rw [lsetN, length_lsetN xs, lset_eq]; simp

theorem RepL.setN {Cm : Com} {β : Bm} : ∀ {xs : List EV} {Xs : List Value} {vs : List EV} {Vs : List Value} (n : Nat), RepL Cm β vs Vs → RepL Cm β xs Xs → RepL Cm β (lsetN vs n xs) (lsetN Vs n Xs)
  | _, _, _, _, n, h, .nil => h
  | _, _, _, _, n, h, .cons hx ht => by
    rw [lsetN, lsetN, lset_eq, lset_eq]
    exact RepL.setN (n + 1) (h.set n hx) ht

/-- A world with another object in a block. -/
def putBlk (w : World) (b : Nat) (o : Obj) : World := { w with heap := w.heap.setIfInBounds b o }

@[simp] theorem putBlk_size (w : World) (b : Nat) (o : Obj) : (putBlk w b o).heap.size = w.heap.size := by simp [putBlk]
theorem putBlk_same {w : World} {b : Nat} {o : Obj} (h : b < w.heap.size) : (putBlk w b o).heap[b]? = some o := by simp [putBlk, h]
theorem putBlk_ne {w : World} {b b' : Nat} {o : Obj} (h : b ≠ b') : (putBlk w b o).heap[b']? = w.heap[b']? := by simp [putBlk, Array.getElem?_setIfInBounds_ne h]

theorem heap_lt {w : World} {b : Nat} {o : Obj} (h : w.heap[b]? = some o) : b < w.heap.size := (Array.getElem?_eq_some_iff.1 h).1

section
variable {w : World} {blk : Nat} {c : Array Value} {elem : TypeId} {fr : Nat × Nat} (hw : w.heap[blk]? = some (.cells c elem fr))
include hw

theorem cell_of (o : Nat) : w.cell? ⟨blk, o, none⟩ = c[o]? := by simp [World.cell?, hw]

theorem setCell_eq (o : Nat) (v : Value) : w.setCell ⟨blk, o, none⟩ v = putBlk w blk (.cells (c.setIfInBounds o v) elem fr) := by
  have hlt := heap_lt hw
  unfold World.setCell putBlk
  congr 1
  refine Array.ext (by simp) fun i h1 h2 => ?_
  simp only [Array.size_modify] at h1
  rw [Array.getElem_modify, Array.getElem_setIfInBounds]
  by_cases e : blk = i
  · subst e
    rw [if_pos rfl, if_pos rfl]
    rw [Array.getElem?_eq_getElem hlt] at hw
    rw [Option.some.inj hw]
    simp
  · rw [if_neg e, if_neg e]
end

theorem putBlk_putBlk (w : World) (b : Nat) (o o' : Obj) : putBlk (putBlk w b o) b o' = putBlk w b o' := by
  simp [putBlk]

theorem putBlk_self {w : World} {b : Nat} {o : Obj} (h : w.heap[b]? = some o) : putBlk w b o = w := by
  have hl := heap_lt h
  unfold putBlk
  have : w.heap.setIfInBounds b o = w.heap := by
    refine Array.ext (by simp) fun i h1 h2 => ?_
    rw [Array.getElem_setIfInBounds]
    split
    · rename_i e; subst e
      rw [Array.getElem?_eq_getElem hl] at h
      exact (Option.some.inj h).symm
    · rfl
  rw [this]

theorem Addr.add_none (b o n : Nat) : (Addr.add ⟨b, o, none⟩ n) = ⟨b, o + n, none⟩ := by
  unfold Addr.add; split
  · subst_vars; rfl
  · rfl

section
variable {P : Program}

theorem run_loadCellsFrom {w : World} {blk off : Nat} {c : Array Value} {elem : TypeId} {fr : Nat × Nat} (hw : w.heap[blk]? = some (.cells c elem fr)) :
    ∀ (n i : Nat) (acc : Array Value), off + i + n ≤ c.size → (loadCellsFrom ⟨blk, off, none⟩ i n acc).run P w = .ok (acc ++ c.extract (off + i) (off + i + n)) w
  | 0, i, acc, _ => by simp [loadCellsFrom]; omega
  | n + 1, i, acc, h => by
    have h1 : off + i < c.size := by omega
    simp only [loadCellsFrom, Sem.run_bind, run_load, Addr.add_none]
    rw [cell_of hw, Array.getElem?_eq_getElem h1]
    simp only [Result.andThen_ok]
    rw [run_loadCellsFrom hw n (i + 1) _ (by omega)]
    congr 1
    refine Array.ext (by simp; omega) fun j h2 h3 => ?_
    simp only [Array.size_append, Array.size_push, Array.size_extract] at h2 h3
    by_cases ha : j < acc.size
    · simp [ha, Array.getElem_push, show j < acc.size + 1 by omega]
    · by_cases hb : j = acc.size
      · subst hb; simp [Array.getElem_push]
      · simp [Array.getElem_append, ha, show ¬ j < acc.size + 1 by omega]
        congr 1; omega

theorem run_loadCells {w : World} {blk off n : Nat} {c : Array Value} {elem : TypeId} {fr : Nat × Nat} (hw : w.heap[blk]? = some (.cells c elem fr)) (h : off + n ≤ c.size) :
    (loadCells ⟨blk, off, none⟩ n).run P w = .ok (c.extract off (off + n)) w := by
  unfold loadCells
  rw [run_loadCellsFrom hw n 0 #[] (by omega)]
  simp

theorem run_storeCells {elem : TypeId} {fr : Nat × Nat} {blk off : Nat} (hfr : fr = (0, 0)) : ∀ (vs : List Value) (i : Nat) (w : World) (c : Array Value), w.heap[blk]? = some (.cells c elem fr) →
    off + i + vs.length ≤ c.size → (∀ v ∈ vs, v.oneCell' = true) → (storeCells ⟨blk, off, none⟩ vs i).run P w = .ok () (putBlk w blk (.cells (lsetN c.toList (off + i) vs).toArray elem fr))
  | [], i, w, c, hw, _, _ => by simp [storeCells, lsetN]; exact (putBlk_self (by simpa using hw)).symm
  | v :: vs, i, w, c, hw, h, hv => by
    simp only [List.length_cons] at h
    have h1 : off + i < c.size := by omega
    simp only [storeCells, Sem.run_bind, Addr.add_none]
    rw [run_store P w _ v _ (hv v (by simp)), cell_of hw, Array.getElem?_eq_getElem h1]
    have hf : w.frozen? ⟨blk, off + i, none⟩ = false := by simp [World.frozen?, hw, hfr]
    simp only [hf, Bool.false_eq_true, if_false, Result.andThen_ok]
    rw [setCell_eq hw]
    have hlt := heap_lt hw
    rw [run_storeCells hfr vs (i + 1) _ (c.setIfInBounds (off + i) v) (putBlk_same hlt) (by simp; omega) (fun x hx => hv x (by simp [hx]))]
    rw [putBlk_putBlk]
    congr 4
    simp [lsetN, lset_eq, Nat.add_assoc]
end

section state
variable {Cm : Com} {β : Bm} {s : St} {w : World}

theorem SInv.own_lt (h : SInv Cm β s w) {b : Nat} (ho : Own β s b) : b < w.heap.size := by
  obtain ⟨i, e, k, h1, h2, _, rfl⟩ := ho
  obtain ⟨c, elem, fr, hm, _⟩ := (h.blk i e k h1 h2).mem
  exact heap_lt hm

/-- The world may have drawn: nothing of it counts. -/
theorem SInv.congr (h : SInv Cm β s w) {w' : World} (hh : w'.heap = w.heap) : SInv Cm β s w' :=
  ⟨h.len, fun i e k h1 h2 => by
    obtain ⟨a, b, c, d, r, m⟩ := h.blk i e k h1 h2
    exact ⟨a, b, c, d, r, by rw [hh]; exact m⟩, fun b c hc => by rw [hh]; exact h.com b c hc, h.dis, h.unc, h.keep⟩

theorem BlkOk.mono {Cm Cm' : Com} {β β' : Bm} {keep keep' i : Nat} {e : Ent} {k : Blk} {w w' : World} (h : BlkOk Cm β keep i e k w) (hc : CLe Cm Cm') (hb : BLe β β') (hk : keep ≤ keep') (hw : w'.heap[e.blk]? = w.heap[e.blk]?) : BlkOk Cm' β' keep' i e k w' := by
  obtain ⟨a, b, c, d, r, cc, elem, fr, m1, m2, m3, m4, m5⟩ := h
  exact ⟨a, b, c, d, by omega, cc, elem, fr, by rw [hw]; exact m1, m2, m3.mono hc hb, fun hf => hc _ _ (m4 hf), m5⟩

/-- A block of its own comes, with an abstract block. -/
theorem SInv.new (h : SInv Cm β s w) {arr : Bool} {cells : List EV} {c : Array Value} {elem : TypeId} {w' : World} (hh : w'.heap = w.heap.push (.cells c elem (0, 0))) (ho : w'.os = w.os) (ht : w'.tape = w.tape)
    (hu : w'.output = w.output) (hr : RepL Cm β cells (c.toList.take cells.length)) :
    ∃ β', SInv Cm β' (newBlk s arr cells).2 w' ∧ Step Cm β s w Cm β' (newBlk s arr cells).2 w' ∧ β'[s.h.length]? = some (some ⟨w.heap.size, 0, c.size, 0, arr, cells.length⟩) ∧ BLe β β' := by
  have hl := hr.length
  have hcl : cells.length ≤ c.size := by rw [List.length_take] at hl; simp at hl; omega
  have hb : BLe β (β ++ [some ⟨w.heap.size, 0, c.size, 0, arr, cells.length⟩]) := by
    refine ⟨by simp, fun b e he => ⟨e, ?_, .inl rfl⟩⟩
    rw [List.getElem?_append_left (List.getElem?_eq_some_iff.1 he).1]; exact he
  have hnew : (β ++ [some ⟨w.heap.size, 0, c.size, 0, arr, cells.length⟩])[s.h.length]? = some (some ⟨w.heap.size, 0, c.size, 0, arr, cells.length⟩) := by
    rw [← h.len]; simp
  have hold : ∀ b, b < w.heap.size → w'.heap[b]? = w.heap[b]? := fun b hb => by rw [hh, Array.getElem?_push, if_neg (by omega)]
  have hlast : w'.heap[w.heap.size]? = some (.cells c elem (0, 0)) := by rw [hh]; simp
  -- what an index of the new lists is
  have hix : ∀ (i : Nat) (e : Ent), (β ++ [some ⟨w.heap.size, 0, c.size, 0, arr, cells.length⟩])[i]? = some (some e) → (i < s.h.length ∧ β[i]? = some (some e)) ∨ (i = s.h.length ∧ e = ⟨w.heap.size, 0, c.size, 0, arr, cells.length⟩) := by
    intro i e he
    rw [List.getElem?_append] at he
    split at he
    · exact .inl ⟨by have := h.len; omega, he⟩
    · rename_i hi
      have := h.len
      have : i = s.h.length := by
        rcases Nat.lt_or_ge (i - β.length) 1 with h1 | h1
        · omega
        · rw [List.getElem?_eq_none (by simpa using h1)] at he; cases he
      subst this
      rw [← h.len] at he
      simp at he
      exact .inr ⟨rfl, he.symm⟩
  have hkx : ∀ (i : Nat) (k : Blk), i < s.h.length → (newBlk s arr cells).2.h[i]? = some k → s.h[i]? = some k := fun i k hi hk => by
    simp only [newBlk] at hk; rwa [List.getElem?_append_left hi] at hk
  have hkn : ∀ k, (newBlk s arr cells).2.h[s.h.length]? = some k → k = ⟨0, arr, false, cells⟩ := fun k hk => by
    simp [newBlk] at hk; exact hk.symm
  refine ⟨_, ⟨?_, ?_, ?_, ?_, ?_, ?_⟩, ⟨.refl _, hb, ho, ht, hu, ?_, fun b hbl _ => hold b hbl, ?_, fun _ _ h => .inl h, fun b hbn => by
    have hlt := (List.getElem?_eq_some_iff.1 hbn).1
    exact ⟨by rw [List.getElem?_append_left hlt]; exact hbn, by simp only [newBlk]; rw [List.getElem?_append_left (by rw [← h.len]; exact hlt)]⟩⟩, hnew, hb⟩
  · simp [newBlk, h.len]
  · intro i e k he hk
    rcases hix i e he with ⟨hi, he⟩ | ⟨rfl, rfl⟩
    · have hok := h.blk i e k he (hkx i k hi hk)
      obtain ⟨cc, el, fr, hm, _⟩ := hok.mem
      exact hok.mono (.refl _) hb (Nat.le_refl _) (hold _ (heap_lt hm))
    · obtain rfl := hkn k hk
      refine ⟨rfl, rfl, rfl, by simpa using hcl, ?_, c, elem, (0, 0), hlast, Nat.le_refl _, by simpa using hr.mono (.refl _) hb, by simp, fun _ => rfl⟩
      have := hr.refs_le; have := h.len
      simp only; omega
  · intro b cc hcc
    obtain ⟨el, fr, hm⟩ := h.com b cc hcc
    exact ⟨el, fr, by rw [hold b (heap_lt hm)]; exact hm⟩
  · intro i j e e' k hij he he' hk hf
    rcases hix i e he with ⟨hi, he⟩ | ⟨rfl, rfl⟩ <;> rcases hix j e' he' with ⟨hj, he'⟩ | ⟨rfl, rfl⟩
    · exact h.dis i j e e' k hij he he' (hkx i k hi hk) hf
    · have hok := h.blk i e k he (hkx i k hi hk)
      obtain ⟨cc, el, fr, hm, _⟩ := hok.mem
      have := heap_lt hm
      simp only; omega
    · obtain ⟨k', hk'⟩ : ∃ k', s.h[j]? = some k' := ⟨_, List.getElem?_eq_getElem hj⟩
      obtain ⟨cc, el, fr, hm, _⟩ := (h.blk j e' k' he' hk').mem
      have := heap_lt hm
      simp only; omega
    · exact absurd rfl hij
  · intro i e k he hk hf
    rcases hix i e he with ⟨hi, he⟩ | ⟨rfl, rfl⟩
    · exact h.unc i e k he (hkx i k hi hk) hf
    · cases hcm : Cm w.heap.size with
      | none => rfl
      | some cc => obtain ⟨el, fr, hm⟩ := h.com _ _ hcm; exact absurd (heap_lt hm) (by omega)
  · have := h.keep; simp [newBlk]; omega
  · rw [hh]; simp
  · intro b ⟨i, e, k, he, hk, hf, hbk⟩
    rcases hix i e he with ⟨hi, he⟩ | ⟨rfl, rfl⟩
    · exact .inl ⟨i, e, k, he, hkx i k hi hk, hf, hbk⟩
    · exact .inr (by simp at hbk; omega)

/-- A block comes that is never written. -/
theorem SInv.commit (h : SInv Cm β s w) {c : Array Value} {elem : TypeId} {fr : Nat × Nat} {w' : World} (hh : w'.heap = w.heap.push (.cells c elem fr)) (ho : w'.os = w.os) (ht : w'.tape = w.tape) (hu : w'.output = w.output) :
    ∃ Cm', SInv Cm' β s w' ∧ Step Cm β s w Cm' β s w' ∧ Cm' w.heap.size = some c ∧ CLe Cm Cm' := by
  have hold : ∀ b, b < w.heap.size → w'.heap[b]? = w.heap[b]? := fun b hb => by rw [hh, Array.getElem?_push, if_neg (by omega)]
  have hnone : Cm w.heap.size = none := by
    cases hcm : Cm w.heap.size with
    | none => rfl
    | some cc => obtain ⟨el, fr, hm⟩ := h.com _ _ hcm; exact absurd (heap_lt hm) (by omega)
  have hle : CLe Cm (fun b => if b = w.heap.size then some c else Cm b) := fun b cc hcc => by
    by_cases e : b = w.heap.size
    · subst e; rw [hnone] at hcc; cases hcc
    · simp [e, hcc]
  refine ⟨fun b => if b = w.heap.size then some c else Cm b, ⟨h.len, ?_, ?_, h.dis, ?_, h.keep⟩, ⟨hle, .refl _, ho, ht, hu, by rw [hh]; simp, fun b hb _ => hold b hb, fun b hb => .inl hb, fun b cc hcc => by
    by_cases e : b = w.heap.size
    · exact .inr (.inr (by omega))
    · simp [e] at hcc; exact .inl hcc, fun b hbn => ⟨hbn, rfl⟩⟩, by simp, hle⟩
  · intro i e k he hk
    have hok := h.blk i e k he hk
    obtain ⟨cc, el, fr, hm, _⟩ := hok.mem
    exact hok.mono hle (.refl _) (Nat.le_refl _) (hold _ (heap_lt hm))
  · intro b cc hcc
    by_cases e : b = w.heap.size
    · subst e; simp at hcc; subst hcc; exact ⟨elem, fr, by rw [hh]; simp⟩
    · simp [e] at hcc
      obtain ⟨el, fr, hm⟩ := h.com b cc hcc
      exact ⟨el, fr, by rw [hold b (heap_lt hm)]; exact hm⟩
  · intro i e k he hk hf
    have := h.own_lt ⟨i, e, k, he, hk, hf, rfl⟩
    simp [show e.blk ≠ w.heap.size by omega, h.unc i e k he hk hf]

/-- An abstract block is never written again. -/
theorem SInv.freeze (h : SInv Cm β s w) {b : Nat} {e : Ent} {k : Blk} (he : β[b]? = some (some e)) (hk : s.h[b]? = some k) :
    ∃ Cm' c, SInv Cm' β { s with h := s.h.set b { k with frz := true } } w ∧ Step Cm β s w Cm' β { s with h := s.h.set b { k with frz := true } } w ∧ Cm' e.blk = some c ∧ e.fin ≤ c.size ∧
      RepL Cm' β k.cells ((c.toList.drop e.off).take e.len) ∧ CLe Cm Cm' := by
  have hok := h.blk b e k he hk
  obtain ⟨c, elem, fr, hm, hfin, hr, hfz, hnf⟩ := hok.mem
  have hbl : b < s.h.length := (List.getElem?_eq_some_iff.1 hk).1
  have hle : CLe Cm (fun x => if x = e.blk then some c else Cm x) := fun x cc hcc => by
    by_cases hx : x = e.blk
    · subst hx
      obtain ⟨el, fr', hm'⟩ := h.com _ _ hcc
      rw [hm] at hm'
      simp only [Option.some.injEq, Obj.cells.injEq] at hm'
      simp [hm'.1]
    · simp [hx, hcc]
  have hset : ∀ (i : Nat) (k' : Blk), (s.h.set b { k with frz := true })[i]? = some k' → (i = b ∧ k' = { k with frz := true }) ∨ (i ≠ b ∧ s.h[i]? = some k') := by
    intro i k' hk'
    rw [List.getElem?_set] at hk'
    by_cases e : b = i
    · subst e; simp [hbl] at hk'; exact .inl ⟨rfl, hk'.symm⟩
    · simp [e] at hk'; exact .inr ⟨fun x => e x.symm, hk'⟩
  refine ⟨fun x => if x = e.blk then some c else Cm x, c, ⟨by simp [h.len], ?_, ?_, ?_, ?_, by simpa using h.keep⟩, ⟨hle, .refl _, rfl, rfl, rfl, Nat.le_refl _, fun _ _ _ => rfl, ?_, fun x cc hcc => by
    by_cases hx : x = e.blk
    · cases hf : k.frz with
      | true => have := hfz hf; subst hx; simp at hcc; subst hcc; exact .inl this
      | false => exact .inr (.inl ⟨b, e, k, he, hk, hf, hx.symm⟩)
    · simp [hx] at hcc; exact .inl hcc, fun x hx => ⟨hx, by
      have : b ≠ x := fun z => by subst z; rw [he] at hx; cases hx
      simp [List.getElem?_set_ne this]⟩⟩, by simp, hfin, hr.mono hle (.refl _), hle⟩
  · intro i e' k' he' hk'
    rcases hset i k' hk' with ⟨rfl, rfl⟩ | ⟨hne, hk'⟩
    · rw [he] at he'; cases he'
      exact ⟨hok.gen, hok.arr, hok.len, hok.fin, hok.refs, c, elem, fr, hm, hfin, hr.mono hle (.refl _), fun _ => by simp, by simp⟩
    · exact (h.blk i e' k' he' hk').mono hle (.refl _) (Nat.le_refl _) rfl
  · intro x cc hcc
    by_cases hx : x = e.blk
    · subst hx; simp at hcc; subst hcc; exact ⟨elem, fr, hm⟩
    · simp [hx] at hcc; exact h.com x cc hcc
  · intro i j e1 e2 k' hij h1 h2 hk' hf
    rcases hset i k' hk' with ⟨rfl, rfl⟩ | ⟨hne, hk'⟩
    · cases hf
    · exact h.dis i j e1 e2 k' hij h1 h2 hk' hf
  · intro i e' k' he' hk' hf
    rcases hset i k' hk' with ⟨rfl, rfl⟩ | ⟨hne, hk'⟩
    · cases hf
    · have := h.dis i b e' e k' hne he' he hk' hf
      simp [this, h.unc i e' k' he' hk' hf]
  · intro x ⟨i, e', k', he', hk', hf, hx⟩
    rcases hset i k' hk' with ⟨rfl, rfl⟩ | ⟨hne, hk'⟩
    · cases hf
    · exact .inl ⟨i, e', k', he', hk', hf, hx⟩

/-- An abstract block turns: its cells, in the same place. -/
theorem SInv.turn (h : SInv Cm β s w) {b : Nat} {e e' : Ent} {k k' : Blk} (he : β[b]? = some (some e)) (hk : s.h[b]? = some k) (hf : k.frz = false) (hf' : k'.frz = false) {keep' : Nat} (hkp : s.keep ≤ keep') (hkl : keep' ≤ s.h.length)
    (he' : e' = e ∨ e.gen < e'.gen) (hg : e'.gen = k'.gen) (ha : e'.arr = k'.arr) (hl : e'.len = k'.cells.length) (hfn : e'.off + e'.len ≤ e'.fin) (hrf : refsL k'.cells ≤ max (b + 1) keep')
    {w' : World} {c' : Array Value} {elem : TypeId} (hm : w'.heap[e'.blk]? = some (.cells c' elem (0, 0))) (hfin : e'.fin ≤ c'.size) (hr : RepL Cm β k'.cells ((c'.toList.drop e'.off).take e'.len))
    (hb : e'.blk = e.blk ∨ e'.blk = w.heap.size) (hoth : ∀ x, x < w.heap.size → x ≠ e.blk → w'.heap[x]? = w.heap[x]?) (hsz : w.heap.size ≤ w'.heap.size) (ho : w'.os = w.os) (ht : w'.tape = w.tape) (hu : w'.output = w.output) :
    SInv Cm (β.set b (some e')) { h := s.h.set b k', keep := keep' } w' ∧ Step Cm β s w Cm (β.set b (some e')) { h := s.h.set b k', keep := keep' } w' ∧ BLe β (β.set b (some e')) ∧ (β.set b (some e'))[b]? = some (some e') := by
  have hbl : b < s.h.length := (List.getElem?_eq_some_iff.1 hk).1
  have hbl' : b < β.length := (List.getElem?_eq_some_iff.1 he).1
  have hble : BLe β (β.set b (some e')) := by
    refine ⟨by simp, fun x ex hx => ?_⟩
    by_cases e0 : x = b
    · subst e0; rw [he] at hx; cases hx
      exact ⟨e', by simp [hbl'], he'⟩
    · exact ⟨ex, by rw [List.getElem?_set_ne (fun z => e0 z.symm)]; exact hx, .inl rfl⟩
  have hset : ∀ (i : Nat) (kk : Blk), (s.h.set b k')[i]? = some kk → (i = b ∧ kk = k') ∨ (i ≠ b ∧ s.h[i]? = some kk) := by
    intro i kk hkk
    rw [List.getElem?_set] at hkk
    by_cases e0 : b = i
    · subst e0; simp [hbl] at hkk; exact .inl ⟨rfl, hkk.symm⟩
    · simp [e0] at hkk; exact .inr ⟨fun x => e0 x.symm, hkk⟩
  have hsetβ : ∀ (i : Nat) (ee : Ent), i ≠ b → (β.set b (some e'))[i]? = some (some ee) → β[i]? = some (some ee) := fun i ee hi hx => by
    rwa [List.getElem?_set_ne (fun z => hi z.symm)] at hx
  have hsetb : ∀ (ee : Ent), (β.set b (some e'))[b]? = some (some ee) → ee = e' := fun ee hx => by simp [hbl'] at hx; exact hx.symm
  have hlt : ∀ (i : Nat) (ee : Ent) (kk : Blk), β[i]? = some (some ee) → s.h[i]? = some kk → ee.blk < w.heap.size := fun i ee kk h1 h2 => by
    obtain ⟨cc, el, fr, hm, _⟩ := (h.blk i ee kk h1 h2).mem
    exact heap_lt hm
  have hex : ∀ (i : Nat) (ee : Ent), β[i]? = some (some ee) → ∃ kk, s.h[i]? = some kk := fun i ee hx => ⟨_, List.getElem?_eq_getElem (by rw [← h.len]; exact (List.getElem?_eq_some_iff.1 hx).1)⟩
  have hne : ∀ (i : Nat) (ee : Ent), i ≠ b → β[i]? = some (some ee) → ee.blk ≠ e'.blk := fun i ee hi hx => by
    obtain ⟨kk, hkk⟩ := hex i ee hx
    rcases hb with hb | hb
    · rw [hb]; exact fun z => h.dis b i e ee k (fun z => hi z.symm) he hx hk hf z.symm
    · have := hlt i ee kk hx hkk; omega
  refine ⟨⟨by simp [h.len], ?_, ?_, ?_, ?_, by simpa using hkl⟩, ⟨.refl _, hble, ho, ht, hu, hsz, ?_, ?_, fun _ _ h => .inl h, fun x hx => by
    have : b ≠ x := fun z => by subst z; rw [he] at hx; cases hx
    exact ⟨by rw [List.getElem?_set_ne this]; exact hx, by simp [List.getElem?_set_ne this]⟩⟩, hble, by simp [hbl']⟩
  · intro i ee kk hee hkk
    rcases hset i kk hkk with ⟨rfl, rfl⟩ | ⟨hi, hkk⟩
    · obtain rfl := hsetb ee hee
      exact ⟨hg, ha, hl, hfn, hrf, c', elem, (0, 0), hm, hfin, hr.mono (.refl _) hble, by simp [hf'], fun _ => rfl⟩
    · have hee := hsetβ i ee hi hee
      have hok := h.blk i ee kk hee hkk
      exact hok.mono (.refl _) hble hkp (hoth _ (hlt i ee kk hee hkk) (fun z => h.dis b i e ee k (fun z => hi z.symm) he hee hk hf z.symm))
  · intro x cc hcc
    obtain ⟨el, fr, hm⟩ := h.com x cc hcc
    refine ⟨el, fr, ?_⟩
    rw [hoth x (heap_lt hm) (fun z => by subst z; rw [h.unc b e k he hk hf] at hcc; cases hcc)]
    exact hm
  · intro i j e1 e2 kk hij h1 h2 hkk hff
    rcases hset i kk hkk with ⟨rfl, rfl⟩ | ⟨hi, hkk⟩
    · obtain rfl := hsetb e1 h1
      exact fun z => hne j e2 (fun z => hij z.symm) (hsetβ j e2 (fun z => hij z.symm) h2) z.symm
    · have h1' := hsetβ i e1 hi h1
      by_cases hj : j = b
      · subst hj; obtain rfl := hsetb e2 h2; exact hne i e1 hi h1'
      · exact h.dis i j e1 e2 kk hij h1' (hsetβ j e2 hj h2) hkk hff
  · intro i ee kk hee hkk hff
    rcases hset i kk hkk with ⟨rfl, rfl⟩ | ⟨hi, hkk⟩
    · obtain rfl := hsetb ee hee
      rcases hb with hb | hb
      · rw [hb]; exact h.unc i e k he hk hf
      · cases hcm : Cm ee.blk with
        | none => rfl
        | some cc => obtain ⟨el, fr, hm⟩ := h.com _ _ hcm; exact absurd (heap_lt hm) (by omega)
    · exact h.unc i ee kk (hsetβ i ee hi hee) hkk hff
  · intro x hx hn
    exact hoth x hx fun z => hn ⟨b, e, k, he, hk, hf, z.symm⟩
  · intro x ⟨i, ee, kk, hee, hkk, hff, hx⟩
    rcases hset i kk hkk with ⟨rfl, rfl⟩ | ⟨hi, hkk⟩
    · obtain rfl := hsetb ee hee
      rcases hb with hb | hb
      · exact .inl ⟨i, e, k, he, hk, hf, by rw [← hx, hb]⟩
      · exact .inr (by omega)
    · exact .inl ⟨i, ee, kk, hsetβ i ee hi hee, hkk, hff, hx⟩

/-- Behind a call: what nobody refers to is dropped. -/
theorem SInv.cut (h : SInv Cm β s w) {n : Nat} (hk : s.keep ≤ n) (hn : n ≤ s.h.length) : SInv Cm (β.take n) { s with h := s.h.take n } w := by
  have hb : ∀ (i : Nat) (e : Ent), (β.take n)[i]? = some (some e) → i < n ∧ β[i]? = some (some e) := fun i e he => by
    rw [List.getElem?_take] at he; split at he
    · exact ⟨‹_›, he⟩
    · cases he
  have hh : ∀ (i : Nat) (k : Blk), (s.h.take n)[i]? = some k → s.h[i]? = some k := fun i k he => by
    rw [List.getElem?_take] at he; split at he
    · exact he
    · cases he
  have hlen := h.len
  refine ⟨by simp; omega, ?_, h.com, ?_, ?_, by simp; omega⟩
  · intro i e k he hkk
    obtain ⟨hi, he⟩ := hb i e he
    obtain ⟨a, b, c, d, r, cc, elem, fr, m1, m2, m3, m4, m5⟩ := h.blk i e k he (hh i k hkk)
    exact ⟨a, b, c, d, r, cc, elem, fr, m1, m2, m3.cut (by omega) (by omega), m4, m5⟩
  · intro i j e e' k hij he he' hkk hf
    exact h.dis i j e e' k hij (hb i e he).2 (hb j e' he').2 (hh i k hkk) hf
  · intro i e k he hkk hf
    exact h.unc i e k (hb i e he).2 (hh i k hkk) hf
end state
end Go.Ev
