/- slices.Insert of one element, for the evaluator. -/
import Derived.Test.YtnnebeidpkaobaaGreatDoorEvPrim1
import Derived.Test.YtnnebeidpkaobaaGreatDoorEvMono
set_option linter.unusedVariables false
set_option linter.unusedSimpArgs false
set_option linter.unusedSectionVars false
namespace Go.Ev
open Go
set_option linter.unusedSectionVars false
set_option linter.unusedVariables false

theorem seqL_true : ∀ vs : List EV, seqL vs = true
  | [] => rfl
  | v :: vs => by simp [seqL, seqV_true, seqL_true vs]

theorem seqH_true : ∀ ks : List Blk, seqH ks = true
  | [] => rfl
  | _ :: ks => by simp [seqH, seqH_true ks]

theorem writeE_ok {s : St} {b g off : Nat} {cs : List EV} {k : Blk} (hk : s.h[b]? = some k) (hg : k.gen = g) (hf : k.frz = false) (hl : off + cs.length ≤ k.cells.length) (hc : cs.all EV.isCell = true) (hr : refsL cs ≤ max (b + 1) s.keep) :
    writeE s b g off cs = some { h := s.h.set b { k with cells := lsetN k.cells off cs }, keep := s.keep } := by
  unfold writeE St.blk
  rw [lget_eq, hk]
  simp only [hg, beq_self_eq_true, if_true]
  simp only [hf, Bool.false_eq_true, if_false, hl, if_true, hc, seqL_true, seqH_true, Bool.and_self]
  rw [lset_eq]
  have : (if refsL cs ≤ b + 1 then s.keep else max s.keep (refsL cs)) = s.keep := by split <;> omega
  rw [this]

section
variable {P : Program} {C : Ctx} {Cm Cm' : Com} {β β' : Bm} {s s' : St} {w w' : World} {v : EV}

theorem copy_ok {t e : TypeId} {j : TI} {b g off n sz : Nat} {src : EV} {rows : List (List EV)} (he : elemTI C t = some (e, j)) (hsz : sz = j.size) (hy : src.szIs j.size = true) (hr : srcRows s src = some rows) (h0 : min rows.length n ≠ 0)
    (hw : writeE s b g off (rows.take (min rows.length n)).flatten = some s') : copyE C [t, t] (.sref b g off n sz) src s = some (.int .i64 (min rows.length n : Nat), s') := by
  subst hsz
  unfold copyE
  have hb : ([t, t] : List TypeId)[0]?.bind (elemTI C) = some (e, j) := by simpa using he
  rw [hb]
  simp only []
  rw [show EV.szIs j.size (.sref b g off n j.size) = true from by simp [EV.szIs], hy]
  simp only [Bool.and_self, if_true, hr, lenS, lenE]
  rw [if_neg h0, hw]

theorem chunk_take {α : Type} (sz : Nat) : ∀ (p m : Nat) (l : List α), p ≤ m → (chunk sz m l).take p = chunk sz p l
  | 0, m, l, _ => by simp [chunk]
  | p + 1, 0, l, h => by omega
  | p + 1, m + 1, l, h => by simp [chunk, chunk_take sz p m _ (by omega)]

theorem shift_cells (D rest row : List EV) (p z q : Nat) (hD : D.length = q) (hp : p ≤ q) (hrow : row.length = z) (hrest : z ≤ rest.length) :
    (lsetN (lsetN (D ++ rest) (p + z) (D.drop p)) p row).take (q + z) = D.take p ++ row ++ D.drop p := by
  have h1 : (D.drop p).length = q - p := by simp [hD]
  have hl : (D ++ rest).length = q + rest.length := by simp [hD]
  have e1 := lsetN_eq (D.drop p) (D ++ rest) (p + z) (by rw [h1, hl]; omega)
  have hl1 : (lsetN (D ++ rest) (p + z) (D.drop p)).length = q + rest.length := by rw [length_lsetN, hl]
  rw [lsetN_eq row _ p (by rw [hl1]; omega), e1, hrow, h1]
  have a1 : ((D ++ rest).take (p + z) ++ D.drop p ++ (D ++ rest).drop (p + z + (q - p))).take p = D.take p := by
    rw [List.append_assoc, List.take_append_of_le_length (by simp [hD]; omega), List.take_take, Nat.min_eq_left (by omega), List.take_append_of_le_length (by omega)]
  have a2 : ((D ++ rest).take (p + z) ++ D.drop p ++ (D ++ rest).drop (p + z + (q - p))).drop (p + z) = D.drop p ++ (D ++ rest).drop (p + z + (q - p)) := by
    rw [List.append_assoc, List.drop_append_of_le_length (by simp [hD]; omega), List.drop_eq_nil_of_le (by simp; omega), List.nil_append]
  rw [a1, a2]
  have hl3 : (D.take p ++ row).length = p + z := by simp [hD, hrow]; omega
  rw [← List.append_assoc, List.take_append, List.take_of_length_le (by simp [hD, hrow]; omega), List.length_append, hl3, h1, show q + z - (p + z + (q - p)) = 0 by omega, List.take_zero, List.append_nil]

theorem grow_cells (D zs row : List EV) (p z q : Nat) (hD : D.length = q) (hp : p ≤ q) (hrow : row.length = z) (hzs : zs.length = q + z - p) :
    lsetN (lsetN (D.take p ++ zs) p row) (p + z) (D.drop p) = D.take p ++ row ++ D.drop p := by
  have h1 : (D.drop p).length = q - p := by simp [hD]
  have h2 : (D.take p).length = p := by simp [hD]; omega
  have hl : (D.take p ++ zs).length = q + z := by simp [hD, hzs]; omega
  rw [lsetN_eq (D.drop p) _ (p + z) (by rw [length_lsetN, hl, h1]; omega), lsetN_eq row _ p (by rw [hl]; omega), hrow, h1]
  have e2 : (D.take p ++ zs).take p = D.take p := by rw [List.take_append_of_le_length (by omega), List.take_of_length_le (by omega)]
  rw [e2]
  have hl3 : (D.take p ++ row).length = p + z := by simp [hD, hrow]; omega
  have hd : (D.take p ++ row ++ (D.take p ++ zs).drop (p + z)).drop (p + z + (q - p)) = [] := List.drop_eq_nil_of_le (by simp [hD, hrow, hzs]; omega)
  rw [hd, List.take_append_of_le_length (by omega), List.take_of_length_le (by omega), List.append_nil]

/-- An abstract block is laid at a place that nobody else has. -/
theorem SInv.lay (h : SInv Cm β s w) {b : Nat} {e e' : Ent} {k' : Blk} (he : β[b]? = some (some e)) (hf' : k'.frz = false) {keep' : Nat} (hkp : s.keep ≤ keep') (hkl : keep' ≤ s.h.length)
    (he' : e' = e ∨ e.gen < e'.gen) (hg : e'.gen = k'.gen) (ha : e'.arr = k'.arr) (hl : e'.len = k'.cells.length) (hfn : e'.off + e'.len ≤ e'.fin) (hrf : refsL k'.cells ≤ max (b + 1) keep')
    {c' : Array Value} {elem : TypeId} (hm : w.heap[e'.blk]? = some (.cells c' elem (0, 0))) (hfin : e'.fin ≤ c'.size) (hr : RepL Cm β k'.cells ((c'.toList.drop e'.off).take e'.len))
    (hne : ∀ (i : Nat) (ee : Ent), i ≠ b → β[i]? = some (some ee) → ee.blk ≠ e'.blk) (hun : Cm e'.blk = none) :
    SInv Cm (β.set b (some e')) { h := s.h.set b k', keep := keep' } w ∧ BLe β (β.set b (some e')) ∧ (β.set b (some e'))[b]? = some (some e') := by
  have hbl' : b < β.length := (List.getElem?_eq_some_iff.1 he).1
  have hbl : b < s.h.length := by rw [← h.len]; exact hbl'
  have hble : BLe β (β.set b (some e')) := by
    refine ⟨by simp, fun x ex hx => ?_⟩
    by_cases e0 : x = b
    · subst e0; rw [he] at hx; cases hx
      exact ⟨e', by simp [hbl'], he'⟩
    · exact ⟨ex, by rw [List.getElem?_set_ne (fun z => e0 z.symm)]; exact hx, .inl rfl⟩
  have hset : ∀ (i : Nat) (kk : Blk), (s.h.set b k')[i]? = some kk → (i = b ∧ kk = k') ∨ (i ≠ b ∧ s.h[i]? = some kk) := by
    intro i kk hkk
    rw [List.getElem?_set] at hkk
    by_cases e0 : b = i
    · subst e0; simp [hbl] at hkk; exact .inl ⟨rfl, hkk.symm⟩
    · simp [e0] at hkk; exact .inr ⟨fun x => e0 x.symm, hkk⟩
  have hsetβ : ∀ (i : Nat) (ee : Ent), i ≠ b → (β.set b (some e'))[i]? = some (some ee) → β[i]? = some (some ee) := fun i ee hi hx => by
    rwa [List.getElem?_set_ne (fun z => hi z.symm)] at hx
  have hsetb : ∀ (ee : Ent), (β.set b (some e'))[b]? = some (some ee) → ee = e' := fun ee hx => by simp [hbl'] at hx; exact hx.symm
  refine ⟨⟨by simp [h.len], ?_, h.com, ?_, ?_, by simpa using hkl⟩, hble, by simp [hbl']⟩
  · intro i ee kk hee hkk
    rcases hset i kk hkk with ⟨rfl, rfl⟩ | ⟨hi, hkk⟩
    · obtain rfl := hsetb ee hee
      exact ⟨hg, ha, hl, hfn, hrf, c', elem, (0, 0), hm, hfin, hr.mono (.refl _) hble, by simp [hf'], fun _ => rfl⟩
    · exact (h.blk i ee kk (hsetβ i ee hi hee) hkk).mono (.refl _) hble hkp rfl
  · intro i j e1 e2 kk hij h1 h2 hkk hff
    rcases hset i kk hkk with ⟨rfl, rfl⟩ | ⟨hi, hkk⟩
    · obtain rfl := hsetb e1 h1
      exact fun z => hne j e2 (fun z => hij z.symm) (hsetβ j e2 (fun z => hij z.symm) h2) z.symm
    · have h1' := hsetβ i e1 hi h1
      by_cases hj : j = b
      · subst hj; obtain rfl := hsetb e2 h2; exact hne i e1 hi h1'
      · exact h.dis i j e1 e2 kk hij h1' (hsetβ j e2 hj h2) hkk hff
  · intro i ee kk hee hkk hff
    rcases hset i kk hkk with ⟨rfl, rfl⟩ | ⟨hi, hkk⟩
    · obtain rfl := hsetb ee hee
      exact hun
    · exact h.unc i ee kk (hsetβ i ee hi hee) hkk hff

/-- A step, whose end is told otherwise: a block of it lies elsewhere, blocks behind are dropped. -/
theorem Step.lay (hs : Step Cm β s w Cm' β' s' w') (hlen : β.length = s.h.length) {b : Nat} {e0 e e' : Ent} {k' : Blk} (he0 : β[b]? = some (some e0)) (he : β'[b]? = some (some e)) (he' : e' = e ∨ e.gen < e'.gen) {N keep' : Nat} (hN : s.h.length ≤ N)
    (hNl : N ≤ β'.length) (hown : Own β s e'.blk ∨ w.heap.size ≤ e'.blk) :
    Step Cm β s w Cm' ((β'.take N).set b (some e')) { h := (s'.h.take N).set b k', keep := keep' } w' := by
  have hb : b < β.length := (List.getElem?_eq_some_iff.1 he0).1
  refine ⟨hs.com, ⟨by simp; omega, fun x ex hx => ?_⟩, hs.os, hs.tape, hs.output, hs.size, hs.frame, ?_, hs.cnew, fun x hx => ?_⟩
  · have hxl : x < β.length := (List.getElem?_eq_some_iff.1 hx).1
    obtain ⟨e1, h1, h2⟩ := hs.ble.2 x ex hx
    by_cases hxb : x = b
    · subst hxb
      rw [he] at h1; cases h1
      refine ⟨e', by rw [List.getElem?_set]; simp; omega, ?_⟩
      rcases h2 with rfl | h2 <;> rcases he' with rfl | he'
      · exact .inl rfl
      · exact .inr he'
      · exact .inr h2
      · exact .inr (by omega)
    · exact ⟨e1, by rw [List.getElem?_set_ne (fun z => hxb z.symm), List.getElem?_take, if_pos (by omega)]; exact h1, h2⟩
  · intro x ⟨i, ee, kk, hee, hkk, hff, hx⟩
    by_cases hi : i = b
    · subst hi
      have : ee = e' := by
        rw [List.getElem?_set] at hee
        simp at hee
        exact hee.2.symm
      subst this
      rw [← hx]; exact hown
    · rw [List.getElem?_set_ne (fun z => hi z.symm)] at hee hkk
      rw [List.getElem?_take] at hee hkk
      split at hee
      · rename_i hlt
        rw [if_pos hlt] at hkk
        exact hs.own x ⟨i, ee, kk, hee, hkk, hff, hx⟩
      · cases hee
  · have hxl : x < β.length := (List.getElem?_eq_some_iff.1 hx).1
    have hxb : b ≠ x := fun z => by subst z; rw [he0] at hx; cases hx
    obtain ⟨h1, h2⟩ := hs.unp x hx
    refine ⟨by rw [List.getElem?_set_ne hxb, List.getElem?_take, if_pos (by omega)]; exact h1, ?_⟩
    simp only [List.getElem?_set_ne hxb, List.getElem?_take]
    rw [if_pos (by omega)]; exact h2

/-- Two blocks do not overlap, where the second one is written. -/
theorem run_overlaps {tS tR e : TypeId} {i j : TI} (hC : CtxOk P C) (hi : C.ti tS = some i) (hD : i.desc = .slice e) (hj : C.ti e = some j) (a b : Addr) (la ca lb cb : Nat) (hne : a.block ≠ b.block)
    {c1 c2 : Array Value} {el1 el2 : TypeId} {fr1 : Nat × Nat} (h1 : w.heap[a.block]? = some (.cells c1 el1 fr1)) (h2 : w.heap[b.block]? = some (.cells c2 el2 (0, 0))) (hk1 : c1.size ≠ 0) (hk2 : c2.size ≠ 0) :
    (Extern.SlicesOverlaps.overlaps #[tS, tS] #[tR] #[.slice (some a) la ca, .slice (some b) lb cb]).run P w = .ok (.bool false) w := by
  have hnb : (a.block != b.block) = true := by simpa using hne
  have hnb' : (a.block == b.block) = false := by simpa using hne
  have s1 : w.shape? a.block = some (el1, c1.size) := by simp [World.shape?, h1]
  have s2 : w.shape? b.block = some (el2, c2.size) := by simp [World.shape?, h2]
  have f2 : ∀ o sp, w.frozen? ⟨b.block, o, sp⟩ = false := fun o sp => by simp [World.frozen?, h2]
  have f2' : w.frozen? b = false := by obtain ⟨x, o, sp⟩ := b; exact f2 o sp
  change Sem.run P (α := Value) (do
    let some t := (#[tS, tS] : Array TypeId)[0]? | stuck "slices.overlaps: no parameter types"
    let .slice elem ← underlying t | stuck "slices.overlaps: slice type expected"
    let size ← sizeOf elem
    match (some a : Option Addr), (some b : Option Addr) with
    | some a, some b =>
      if la = 0 ∨ lb = 0 ∨ size = 0 then pure (Value.bool false)
      else if a.block != b.block && (← frozen a) && (← frozen b) then unsupported .addressObserved
      else do
        if a.block != b.block then do
          noView a; noView b
          if ← mayBeOne a b then return Value.bool ((← choose (.extern "sameAddr.stringBytes" 2)) == 1)
        pure (Value.bool (a.block == b.block && a.off < b.off + lb * size && b.off < a.off + la * size))
    | _, _ => pure (Value.bool false)) w = _
  by_cases h0 : la = 0 ∨ lb = 0 ∨ j.size = 0
  · simp [run_under hC hi, hD, run_size hC hj, h0]
  · obtain ⟨m1, hm1⟩ : ∃ m, c1.size = m + 1 := ⟨c1.size - 1, by omega⟩
    obtain ⟨m2, hm2⟩ : ∃ m, c2.size = m + 1 := ⟨c2.size - 1, by omega⟩
    rw [hm1] at s1
    rw [hm2] at s2
    cases hfa : w.frozen? a <;> cases hfe : w.frozen? ⟨a.block, m1 + 1, none⟩ <;>
      simp [run_under hC hi, hD, run_size hC hj, h0, hnb, hnb', frozen, noView, viewAt, mayBeOne, stringish, shape, Sem.run, s1, s2, f2, hfa, hfe]

/-- One element laid into a slice. -/
def insCells (cells : List EV) (off n sz i : Nat) (row : List EV) : List EV :=
  ((cells.drop off).take (n * sz)).take (i * sz) ++ row ++ ((cells.drop off).take (n * sz)).drop (i * sz)

def insE (C : Ctx) (t : TypeId) (args : List EV) (s : St) : Option (EV × St) :=
  match args with
  | [x, .int .i64 i, .sl mr cl z [row]] =>
    match lenE x with
    | some n =>
      if i = (n : Int) then appendE C [t, t] x (.sl mr cl z [row]) s
      else match x, elemTI C t with
        | .sref b g off n sz, some (_, j) => match s.blk b g with
          | some k =>
            if (decide (0 ≤ i) && decide (i < (n : Int)) && k.arr && !k.frz && decide (z = j.size) && decide (sz = j.size) && decide (0 < sz) && roomOk (n + 1) j.bytes && zeroOk j && decide (off + n * sz ≤ k.cells.length) && ((k.cells.drop off).take (n * sz)).all EV.isCell && row.all EV.isCell) = true then
              some (.sref b (g + 2) 0 (n + 1) sz, { h := lset s.h b { gen := g + 2, arr := true, frz := false, cells := insCells k.cells off n sz i.toNat row }, keep := if refsL row ≤ b + 1 then s.keep else max s.keep (refsL row) })
            else none
          | none => none
        | _, _ => none
    | none => none
  | _ => none

/-- The walks over slices.Insert. -/
structure InsWalk (P : Program) (F fo : FuncId) (t t3 : TypeId) (sz : Nat) : Prop where
  fend : ∀ (base : Option Addr) (n c : Nat) (va : Option Addr) (vc : Nat) (w : World) (R : Value) (w1 : World), (Builtin.append_ #[t, t] t #[.slice base n c, .slice va 1 vc]).run P w = .ok R w1 →
    Calls P F #[.slice base n c, .int .i64 n, .slice va 1 vc] w fun e w' => e = .returned R ∧ w' = w1
  fgrow : ∀ (off n c i : Nat) (va : Option Addr) (vc : Nat) (w : World) (N G B : Nat) (w1 w2 w3 : World) (V2 V3 : Value), i < n → n ≤ c → c < n + 1 → n ≤ 17592186044416 → n + 1 ≤ G →
    (Builtin.append_ #[t, t3] t #[.slice (some ⟨B, off, none⟩) i c, .int .i64 ((n : Int) + 1 - (i : Int))]).run P w = .ok (.slice (some ⟨N, 0, none⟩) (n + 1) G) w1 →
    (Builtin.copy_ #[t, t] t3 #[.slice (some ⟨N, i * sz, none⟩) (n + 1 - i) (G - i), .slice va 1 vc]).run P w1 = .ok V2 w2 →
    (Builtin.copy_ #[t, t] t3 #[.slice (some ⟨N, (i + 1) * sz, none⟩) (n + 1 - (i + 1)) (G - (i + 1)), .slice (some ⟨B, off + i * sz, none⟩) (n - i) (c - i)]).run P w2.drew = .ok V3 w3 →
    Calls P F #[.slice (some ⟨B, off, none⟩) n c, .int .i64 i, .slice va 1 vc] w fun e w' => e = .returned (.slice (some ⟨N, 0, none⟩) (n + 1) G) ∧ w' = w3
  fshift : ∀ (off n c i : Nat) (va : Option Addr) (vc : Nat) (w : World) (B : Nat) (w2 w3 : World) (V2 V3 : Value), i < n → n + 1 ≤ c → n ≤ 17592186044416 →
    (∀ lb cb, (callFunc fo #[.slice va 1 vc, .slice (some ⟨B, off + (i + 1) * sz, none⟩) lb cb]).run P w = .ok (.value (.bool false)) w) →
    (Builtin.copy_ #[t, t] t3 #[.slice (some ⟨B, off + (i + 1) * sz, none⟩) (n + 1 - (i + 1)) (c - (i + 1)), .slice (some ⟨B, off + i * sz, none⟩) (n + 1 - i) (c - i)]).run P w.drew = .ok V2 w2 →
    (Builtin.copy_ #[t, t] t3 #[.slice (some ⟨B, off + i * sz, none⟩) (n + 1 - i) (c - i), .slice va 1 vc]).run P w2 = .ok V3 w3 →
    Calls P F #[.slice (some ⟨B, off, none⟩) n c, .int .i64 i, .slice va 1 vc] w fun e w' => e = .returned (.slice (some ⟨B, off, none⟩) (n + 1) c) ∧ w' = w3

theorem SInv.at_gen (h : SInv Cm' β' s' w') (hb : BLe β β') {b : Nat} {e : Ent} {k : Blk} (he : β[b]? = some (some e)) (hk : s'.h[b]? = some k) (hg : k.gen = e.gen) : β'[b]? = some (some e) := by
  obtain ⟨e', h1, h2⟩ := hb.2 b e he
  have := (h.blk b e' k h1 hk).gen
  rcases h2 with rfl | h2
  · exact h1
  · omega

theorem Step.drew (h : SInv Cm β s w) : SInv Cm β s w.drew ∧ Step Cm β s w Cm β s w.drew :=
  ⟨h.congr rfl, .refl _, .refl _, rfl, rfl, rfl, Nat.le_refl _, fun _ _ _ => rfl, fun _ h => .inl h, fun _ _ h => .inl h, fun _ h => ⟨h, rfl⟩⟩

theorem ins_refs {a r d b k : Nat} (ha : a ≤ max (b + 1) k) (hd : d ≤ max (b + 1) k) : max (max a r) d ≤ max (b + 1) (if r ≤ b + 1 then k else max k r) := by
  split <;> omega

theorem ins_keep {r b k N : Nat} (hk : k ≤ N) (hr : r ≤ N) : (if r ≤ b + 1 then k else max k r) ≤ N := by
  split <;> omega

theorem keep_ins {r b k : Nat} : k ≤ (if r ≤ b + 1 then k else max k r) := by
  split <;> omega

theorem mul_cap {a b c sz : Nat} (h : a + b = c) : a * sz + b * sz = c * sz := by rw [← Nat.add_mul, h]

theorem ins_shift (hC : CtxOk P C) {F fo t t3 e tb : TypeId} {j : TI} (hW : InsWalk P F fo t t3 j.size) (he : elemTI C t = some (e, j)) (hx : IsExt P fo (Extern.SlicesOverlaps.overlaps #[t, t] #[tb]))
    (h : SInv Cm β s w) {b g off n i c mr : Nat} {cl : Bool} {row : List EV} {Z : Value} {k : Blk} {en : Ent} (hen : β[b]? = some (some en)) (hk : s.h[b]? = some k) (hg : k.gen = g) (hin : i < n) (harr : k.arr = true) (hfrz : k.frz = false) (hpos : 0 < j.size) (hn44 : n ≤ 17592186044416)
    (hle : off + n * j.size ≤ k.cells.length) (hcells : ((k.cells.drop off).take (n * j.size)).all EV.isCell = true) (hrow : row.all EV.isCell = true) (hZ : Rep Cm β (.sl mr cl j.size [row]) Z) (hcap : k.cells.length ≤ off + c * j.size) (hfin : en.off + off + c * j.size ≤ en.fin) (hfit : n + 1 ≤ c) :
    Calls P F #[.slice (some ⟨en.blk, en.off + off, none⟩) n c, .int .i64 (i : Nat), Z] w fun e w' => ∃ V, e = .returned V ∧
      Post Cm β s w (.sref b (g + 2) 0 (n + 1) j.size) { h := lset s.h b { gen := g + 2, arr := true, frz := false, cells := insCells k.cells off n j.size i row }, keep := if refsL row ≤ b + 1 then s.keep else max s.keep (refsL row) } V w' := by
  have hok := h.blk b en k hen hk
  have hlen := hok.len; have hfn := hok.fin; have hgen := hok.gen; have hrefs := hok.refs
  obtain ⟨c0, elem, fr, hmem, hfc, hrep, _, hfr⟩ := hok.mem
  obtain rfl := hfr hfrz
  obtain ⟨it, hi, hD, hj⟩ := elemTI_some he
  have hbl : b < s.h.length := (List.getElem?_eq_some_iff.1 hk).1
  generalize hq : n * j.size = q at hle hcells
  generalize hp : i * j.size = p
  generalize hcc : c * j.size = cc at hcap hfin
  have hpq : p + j.size ≤ q := by rw [← hp, ← hq, show i * j.size + j.size = (i + 1) * j.size by rw [Nat.add_mul]; omega]; exact Nat.mul_le_mul_right _ hin
  have hqc : q + j.size ≤ cc := by rw [← hcc, ← hq, show n * j.size + j.size = (n + 1) * j.size by rw [Nat.add_mul]; omega]; exact Nat.mul_le_mul_right _ hfit
  have hp1 : (i + 1) * j.size = p + j.size := by rw [Nat.add_mul]; omega
  have hn1 : (n + 1) * j.size = q + j.size := by rw [Nat.add_mul]; omega
  cases hZ with
  | sl hcm hvcap hclip hrl hrr hrm hrb =>
    rename_i vb vo vcap vcs
    have hrl' : row.length = j.size := hrl row (by simp)
    -- the spare cells are told, too
    obtain ⟨D, hDd⟩ : ∃ D, D = (k.cells.drop off).take q := ⟨_, rfl⟩
    have hDl : D.length = q := by rw [hDd]; simp; omega
    have hDr : RepL Cm β D ((c0.toList.drop (en.off + off)).take q) := by
      have := (hrep.drop off).take q
      rw [← hDd, List.drop_take, List.take_take, List.drop_drop, Nat.min_eq_left (by omega)] at this
      exact this
    have hDrf : refsL D ≤ max (b + 1) s.keep := by
      rw [hDd]; exact Nat.le_trans (refsL_take_le _ _) (Nat.le_trans (refsL_drop_le _ _) hrefs)
    have hdead : ∀ m, refsL (List.replicate m EV.dead) = 0 := fun m => by
      induction m with
      | zero => rfl
      | succ m ih => simp [List.replicate_succ, refsL, EV.refs, ih]
    have hKr : RepL Cm β (D ++ List.replicate (cc - q) EV.dead) ((c0.toList.drop (en.off + off)).take cc) := by
      have hs : (c0.toList.drop (en.off + off)).take cc = (c0.toList.drop (en.off + off)).take q ++ ((c0.toList.drop (en.off + off)).take cc).drop q := by
        rw [List.drop_take, ← List.take_add, show q + (cc - q) = cc by omega]
      rw [hs]
      refine hDr.append ?_
      have hd := RepL.dead (Cm := Cm) (β := β) (((c0.toList.drop (en.off + off)).take cc).drop q)
      have : (((c0.toList.drop (en.off + off)).take cc).drop q).length = cc - q := by simp; omega
      rw [this] at hd; exact hd
    obtain ⟨i1, st1, _, he1⟩ := h.turn (e' := ⟨en.blk, en.off + off, en.fin, g + 1, true, cc⟩) (k' := { gen := g + 1, arr := true, frz := false, cells := D ++ List.replicate (cc - q) EV.dead }) hen hk hfrz rfl (keep' := s.keep) (Nat.le_refl _) h.keep
      (.inr (by rw [hgen, hg]; exact Nat.lt_succ_self _)) rfl rfl (by simp [hDl]; omega) hfin (by rw [refsL_append, hdead]; simpa using hDrf) (w' := w) hmem hfc hKr (.inl rfl) (fun _ _ _ => rfl) (Nat.le_refl _) rfl rfl rfl
    generalize hs1 : ({ h := s.h.set b { gen := g + 1, arr := true, frz := false, cells := D ++ List.replicate (cc - q) EV.dead }, keep := s.keep } : St) = s1 at i1 st1
    generalize β.set b (some { blk := en.blk, off := en.off + off, fin := en.fin, gen := g + 1, arr := true, len := cc }) = β1 at i1 st1 he1
    have hk1 : s1.h[b]? = some { gen := g + 1, arr := true, frz := false, cells := D ++ List.replicate (cc - q) EV.dead } := by rw [← hs1]; simp [hbl]
    have hkp1 : s1.keep = s.keep := by rw [← hs1]
    obtain ⟨i1d, st1d⟩ := Step.drew i1
    have hov : ∀ lb cb, (callFunc fo #[.slice (some ⟨vb, vo, none⟩) 1 vcap, .slice (some ⟨en.blk, en.off + off + (i + 1) * j.size, none⟩) lb cb]).run P w = .ok (.value (.bool false)) w := fun lb cb => by
      obtain ⟨el1, fr1, hm1⟩ := h.com _ _ hcm
      have hvne : vb ≠ en.blk := fun z => by rw [z, h.unc b en k hen hk hfrz] at hcm; cases hcm
      have hv0 : vcs.size ≠ 0 := fun z => by
        have := hrr.length
        simp [hrl', Array.toList_eq_nil_iff.2 (Array.size_eq_zero_iff.1 z)] at this
        omega
      exact hx.run _ (run_overlaps hC hi hD hj ⟨vb, vo, none⟩ ⟨en.blk, en.off + off + (i + 1) * j.size, none⟩ 1 vcap lb cb hvne hm1 hmem hv0 (by omega))
    -- what stands from there on moves by one
    have hrepd : Rep Cm β1 (.sref b (g + 1) (p + j.size) (n + 1 - (i + 1)) j.size) (.slice (some ⟨en.blk, en.off + off + (p + j.size), none⟩) (n + 1 - (i + 1)) (c - (i + 1))) :=
      .sref he1 (Nat.le_refl _) (by omega) (fun _ => ⟨rfl, fun _ => by
        have := mul_cap (sz := j.size) (show (i + 1) + (c - (i + 1)) = c by omega)
        rw [hp1] at this
        constructor <;> simp only <;> omega⟩)
    have hreps : Rep Cm β1 (.sref b (g + 1) p (n + 1 - i) j.size) (.slice (some ⟨en.blk, en.off + off + p, none⟩) (n + 1 - i) (c - i)) :=
      .sref he1 (Nat.le_refl _) (by omega) (fun _ => ⟨rfl, fun _ => by
        have := mul_cap (sz := j.size) (show i + (c - i) = c by omega)
        rw [hp] at this
        constructor <;> simp only <;> omega⟩)
    have hni : (n - i) * j.size = q - p := by rw [Nat.sub_mul]; omega
    have hni1 : (n + 1 - i) * j.size = q + j.size - p := by rw [Nat.sub_mul]; omega
    have hrows : srcRows s1 (.sref b (g + 1) p (n + 1 - i) j.size) = some (chunk j.size (n + 1 - i) ((D ++ List.replicate (cc - q) EV.dead).drop p)) := by
      simp only [srcRows, rowsOf, St.blk, lget_eq, hk1, beq_self_eq_true, if_true]
      rw [if_pos (by simp [hDl]; omega)]
    have hmin : min (chunk j.size (n + 1 - i) ((D ++ List.replicate (cc - q) EV.dead).drop p)).length (n + 1 - (i + 1)) = n - i := by rw [chunk_length]; omega
    have htail : ((chunk j.size (n + 1 - i) ((D ++ List.replicate (cc - q) EV.dead).drop p)).take (n - i)).flatten = D.drop p := by
      rw [chunk_take _ _ _ _ (by omega), chunk_flatten _ _ _ (by simp [hDl]; omega), hni, List.drop_append_of_le_length (by omega), List.take_append_of_le_length (by simp [hDl]), List.take_of_length_le (by simp [hDl])]
    have hcD : (D.drop p).all EV.isCell = true := List.all_eq_true.2 fun x hx => List.all_eq_true.1 (hDd ▸ hcells) x (List.mem_of_mem_drop hx)
    have hw1 := writeE_ok (s := s1) (off := p + j.size) (cs := D.drop p) hk1 rfl rfl (by simp [hDl]; omega) hcD (by rw [hkp1]; exact Nat.le_trans (refsL_drop_le _ _) hDrf)
    have hc1 := copy_ok (b := b) (g := g + 1) (off := p + j.size) (n := n + 1 - (i + 1)) (sz := j.size) he rfl (by simp [EV.szIs]) hrows (by rw [hmin]; omega) (by rw [hmin, htail]; exact hw1)
    obtain ⟨V2, w2, hr2, Cm2, β2, i2, st2, _⟩ := copy_sound (P := P) (ts := #[t, t]) (ty := t3) hC i1d hrepd hreps hc1
    generalize hs2 : ({ h := s1.h.set b { gen := g + 1, arr := true, frz := false, cells := lsetN (D ++ List.replicate (cc - q) EV.dead) (p + j.size) (D.drop p) }, keep := s1.keep } : St) = s2 at i2 st2
    have hbl1 : b < s1.h.length := by rw [← hs1]; simpa using hbl
    have hk2 : s2.h[b]? = some { gen := g + 1, arr := true, frz := false, cells := lsetN (D ++ List.replicate (cc - q) EV.dead) (p + j.size) (D.drop p) } := by rw [← hs2]; simp [hbl1]
    have hkp2 : s2.keep = s.keep := by rw [← hs2, ← hkp1]
    have he2 := i2.at_gen st2.ble he1 hk2 rfl
    -- the element
    have hrepd2 : Rep Cm2 β2 (.sref b (g + 1) p (n + 1 - i) j.size) (.slice (some ⟨en.blk, en.off + off + p, none⟩) (n + 1 - i) (c - i)) := hreps.mono st2.com st2.ble
    have hrepv : Rep Cm2 β2 (.sl mr cl j.size [row]) (.slice (some ⟨vb, vo, none⟩) 1 vcap) :=
      (Rep.sl hcm hvcap hclip hrl hrr hrm hrb).mono (st1.com.trans st2.com) (st1.ble.trans st2.ble)
    have hmin2 : min [row].length (n + 1 - i) = 1 := by simp; omega
    have hrl2 : refsL row ≤ β.length := by have := hrr.refs_le; simpa using this
    have hw2 : ∃ s3, writeE s2 b (g + 1) p row = some s3 ∧ s3.h = s2.h.set b { gen := g + 1, arr := true, frz := false, cells := lsetN (lsetN (D ++ List.replicate (cc - q) EV.dead) (p + j.size) (D.drop p)) p row } ∧ s3.keep = (if refsL row ≤ b + 1 then s.keep else max s.keep (refsL row)) := by
      refine ⟨⟨_, _⟩, ?_, rfl, rfl⟩
      unfold writeE St.blk
      rw [lget_eq, hk2]
      simp only [beq_self_eq_true, if_true, Bool.false_eq_true, if_false, hrow, seqL_true, seqH_true, Bool.and_self]
      rw [if_pos (by simp [length_lsetN, hDl, hrl']; omega), lset_eq, hkp2]
      rfl
    obtain ⟨s3, hw2, hs3, hkp3⟩ := hw2
    have hc2 := copy_ok (b := b) (g := g + 1) (off := p) (n := n + 1 - i) (sz := j.size) (src := .sl mr cl j.size [row]) (rows := [row]) he rfl (by simp [EV.szIs]) rfl (by rw [hmin2]; omega) (by rw [hmin2]; simpa using hw2)
    obtain ⟨V3, w3, hr3, Cm3, β3, i3, st3, _⟩ := copy_sound (P := P) (ts := #[t, t]) (ty := t3) hC i2 hrepd2 hrepv hc2
    have hbl2 : b < s2.h.length := by rw [← hs2]; simpa using hbl1
    have hk3 : s3.h[b]? = some { gen := g + 1, arr := true, frz := false, cells := lsetN (lsetN (D ++ List.replicate (cc - q) EV.dead) (p + j.size) (D.drop p)) p row } := by rw [hs3]; simp [hbl2]
    have he3 := i3.at_gen st3.ble he2 hk3 rfl
    have hcall := hW.fshift (en.off + off) n c i (some ⟨vb, vo, none⟩) vcap w en.blk w2 w3 V2 V3 hin hfit hn44 hov (by rw [hp1, hp]; exact hr2) (by rw [hp]; exact hr3)
    refine hcall.mono fun e w' ⟨hret, hw'⟩ => ⟨_, hret, ?_⟩
    subst hw'
    have hok3 := i3.blk b _ _ he3 hk3
    obtain ⟨c3, elem3, fr3, hmem3, hfc3, hrep3, _, hfr3⟩ := hok3.mem
    obtain rfl := hfr3 rfl
    have hins : insCells k.cells off n j.size i row = (lsetN (lsetN (D ++ List.replicate (cc - q) EV.dead) (p + j.size) (D.drop p)) p row).take (q + j.size) := by
      rw [shift_cells D _ row p j.size q hDl (by omega) hrl' (by simp; omega)]
      unfold insCells
      rw [hq, hp, ← hDd]
    have hs3l : s3.h.length = s.h.length := by rw [hs3, ← hs2, ← hs1]; simp
    have hrefI : refsL (insCells k.cells off n j.size i row) ≤ max (b + 1) s3.keep := by
      unfold insCells
      rw [hq, hp, ← hDd, refsL_append, refsL_append, hkp3]
      exact ins_refs (Nat.le_trans (refsL_take_le D p) hDrf) (Nat.le_trans (refsL_drop_le D p) hDrf)
    obtain ⟨i4, ble4, he4⟩ := i3.lay (e' := ⟨en.blk, en.off + off, en.fin, g + 2, true, q + j.size⟩) (k' := { gen := g + 2, arr := true, frz := false, cells := insCells k.cells off n j.size i row }) he3 rfl (keep' := s3.keep) (Nat.le_refl _) i3.keep
      (.inr (Nat.lt_succ_self _)) rfl rfl (by rw [hins]; simp [length_lsetN, hDl]; omega) (by simp only; omega) hrefI hmem3 hfc3 (by
        have := hrep3.take (q + j.size)
        rw [← hins, List.take_take, Nat.min_eq_left (by simp only; omega)] at this
        exact this) (fun x ee hx hex z => by
          obtain ⟨kk, hkk⟩ : ∃ kk, s3.h[x]? = some kk := ⟨_, List.getElem?_eq_getElem (by rw [← i3.len]; exact (List.getElem?_eq_some_iff.1 hex).1)⟩
          exact i3.dis b x _ ee _ (fun z => hx z.symm) he3 hex hk3 rfl z.symm) (by have := i3.unc b _ _ he3 hk3 rfl; exact this)
    have st := (((st1.trans st1d).trans st2).trans st3).lay h.len hen he3 (e' := ⟨en.blk, en.off + off, en.fin, g + 2, true, q + j.size⟩) (k' := { gen := g + 2, arr := true, frz := false, cells := insCells k.cells off n j.size i row }) (.inr (Nat.lt_succ_self _)) (N := s3.h.length) (keep' := s3.keep) (by omega) (by rw [i3.len]; exact Nat.le_refl _) (.inl ⟨b, en, k, hen, hk, hfrz, rfl⟩)
    rw [List.take_of_length_le (by rw [i3.len]; exact Nat.le_refl _), List.take_of_length_le (Nat.le_refl _)] at st
    have hfinal : ({ h := lset s.h b { gen := g + 2, arr := true, frz := false, cells := insCells k.cells off n j.size i row }, keep := if refsL row ≤ b + 1 then s.keep else max s.keep (refsL row) } : St) = { h := s3.h.set b { gen := g + 2, arr := true, frz := false, cells := insCells k.cells off n j.size i row }, keep := s3.keep } := by
      rw [hkp3, hs3, ← hs2, ← hs1, lset_eq]
      simp
    rw [hfinal]
    exact ⟨Cm3, _, i4, st, .sref he4 (Nat.le_refl _) hfit (fun _ => ⟨rfl, fun _ => by simp only; omega⟩)⟩

set_option maxHeartbeats 1600000 in
theorem ins_grow (hC : CtxOk P C) {F fo t t3 e : TypeId} {j i3 : TI} (hW : InsWalk P F fo t t3 j.size) (he : elemTI C t = some (e, j)) (h3 : C.ti t3 = some i3) (h3d : i3.desc = .int .i64)
    (h : SInv Cm β s w) {b g off n i c mr : Nat} {cl : Bool} {row : List EV} {Z : Value} {k : Blk} {en : Ent} (hen : β[b]? = some (some en)) (hk : s.h[b]? = some k) (hg : k.gen = g) (hin : i < n) (harr : k.arr = true) (hfrz : k.frz = false) (hpos : 0 < j.size) (hroom : roomOk (n + 1) j.bytes = true) (hzo : zeroOk j = true)
    (hle : off + n * j.size ≤ k.cells.length) (hcells : ((k.cells.drop off).take (n * j.size)).all EV.isCell = true) (hrow : row.all EV.isCell = true) (hZ : Rep Cm β (.sl mr cl j.size [row]) Z) (hcap : k.cells.length ≤ off + c * j.size) (hfin : en.off + off + c * j.size ≤ en.fin) (hnc : n ≤ c) (hfit : c < n + 1) :
    Calls P F #[.slice (some ⟨en.blk, en.off + off, none⟩) n c, .int .i64 (i : Nat), Z] w fun e w' => ∃ V, e = .returned V ∧
      Post Cm β s w (.sref b (g + 2) 0 (n + 1) j.size) { h := lset s.h b { gen := g + 2, arr := true, frz := false, cells := insCells k.cells off n j.size i row }, keep := if refsL row ≤ b + 1 then s.keep else max s.keep (refsL row) } V w' := by
  have hok := h.blk b en k hen hk
  have hlen := hok.len; have hfn := hok.fin; have hgen := hok.gen; have hrefs := hok.refs
  obtain ⟨c0, elem, fr, hmem, hfc, hrep, _, hfr⟩ := hok.mem
  obtain rfl := hfr hfrz
  obtain ⟨it, hi, hD, hj⟩ := elemTI_some he
  obtain ⟨hr1, hr2, hr3⟩ := roomOk_some hroom
  obtain ⟨z0, hz0, hzl⟩ := zeroOk_some hzo
  have hbl : b < s.h.length := (List.getElem?_eq_some_iff.1 hk).1
  have hcn : c = n := by omega
  subst hcn
  have hn1 : (c + 1) * j.size = c * j.size + j.size := by rw [Nat.add_mul]; omega
  have hp1 : (i + 1) * j.size = i * j.size + j.size := by rw [Nat.add_mul]; omega
  have hni : (c - i) * j.size = c * j.size - i * j.size := by rw [Nat.sub_mul]
  have hni1 : (c + 1 - i) * j.size = c * j.size + j.size - i * j.size := by rw [Nat.sub_mul]; omega
  have hpq : i * j.size + j.size ≤ c * j.size := by rw [← hp1]; exact Nat.mul_le_mul_right _ hin
  generalize hq : c * j.size = q at *
  generalize hp : i * j.size = p at *
  cases hZ with
  | sl hcm hvcap hclip hrl hrr hrm hrb =>
    rename_i vb vo vcap vcs
    have hrl' : row.length = j.size := hrl row (by simp)
    obtain ⟨D, hDd⟩ : ∃ D, D = (k.cells.drop off).take q := ⟨_, rfl⟩
    have hDl : D.length = q := by rw [hDd]; simp; omega
    have hDr : RepL Cm β D ((c0.toList.drop (en.off + off)).take q) := by
      have := (hrep.drop off).take q
      rw [← hDd, List.drop_take, List.take_take, List.drop_drop, Nat.min_eq_left (by omega)] at this
      exact this
    have hDrf : refsL D ≤ max (b + 1) s.keep := by
      rw [hDd]; exact Nat.le_trans (refsL_take_le _ _) (Nat.le_trans (refsL_drop_le _ _) hrefs)
    have hDp : RepL Cm β (D.take p) ((c0.toList.drop (en.off + off)).take p) := by
      have := hDr.take p
      rw [List.take_take, Nat.min_eq_left (by omega)] at this
      exact this
    have hDpl : (D.take p).length = p := by simp [hDl]; omega
    have hlc := run_loadCells_rep (P := P) hmem hDp hDpl
    -- the zero rows
    have hnr : newRows C j (#[t, t3] : Array TypeId).toList[1]? (.int .i64 ((c : Int) + 1 - (i : Int))) s = some (List.replicate (c + 1 - i) z0.cells) := by
      unfold newRows
      have : ((#[t, t3] : Array TypeId).toList[1]?).bind C.ti = some i3 := by simpa using h3
      rw [this]
      simp only [h3d, hz0]
      have e1 : ((c : Int) + 1 - (i : Int)).toNat = c + 1 - i := by omega
      rw [e1]
      rw [if_pos]
      refine ⟨by omega, by omega, hzl, ?_⟩
      unfold roomOk
      have hm : (c + 1 - i) * j.bytes ≤ (c + 1) * j.bytes := Nat.mul_le_mul_right _ (by omega)
      simp only [Bool.and_eq_true, decide_eq_true_eq]
      omega
    obtain ⟨zeros, hco⟩ := newRows_sound (P := P) hC h hj (ts := #[t, t3]) (.int .i64 ((c : Int) + 1 - (i : Int))) hnr
    have hrl0 : (List.replicate (c + 1 - i) z0.cells).length = c + 1 - i := by simp
    obtain ⟨G, c1, w1, k1, k2, k3, k4, k5, k6, k7, zv, hzv, k8⟩ := tail_new hC hj hz0 hco (base := some ⟨en.blk, en.off + off, none⟩) (sLen := i) (sCap := c) (by rw [hrl0]; omega) (by rw [hrl0, show i + (c + 1 - i) = c + 1 by omega]; exact hroom)
      (old := D.take p) (O := c0.extract (en.off + off) (en.off + off + p))
      (fun w' hw' => by
        simp only [Builtin.firstCells]
        rw [hp]
        exact (run_loadCells_rep (P := P) (w := w') (by rw [hw']; exact hmem) hDp hDpl).1)
      (by rw [hlc.2]; exact hDp)
    have hOs : (c0.extract (en.off + off) (en.off + off + p)).size = p := by
      have := congrArg List.length hlc.2
      rw [← hDp.length, hDpl] at this
      simpa only [Array.length_toList] using this
    have pre := append_pre (ty := t) hC hi hD hj (ts := #[t, t3]) rfl hco (some ⟨en.blk, en.off + off, none⟩) i c
    rw [hrl0, show i + (c + 1 - i) = c + 1 by omega] at k1 k2 k8
    rw [hrl0] at pre
    have hrz := pre.trans k2
    obtain ⟨ZS, hZS⟩ : ∃ ZS, ZS = (List.replicate (c + 1 - i) z0.cells).flatten := ⟨_, rfl⟩
    have hZl : ZS.length = q + j.size - p := by rw [hZS, ← hni1, List.length_flatten]; simp [hzl]
    rw [← hZS] at k7 k8
    rw [hOs, hZl, zero_size hzv hz0 hzl] at k8
    have hGs : (c + 1) * j.size + (G - (c + 1)) * j.size = G * j.size := mul_cap (by omega)
    -- the new row
    obtain ⟨β1, i1, st1, he1, ble1⟩ := h.new (arr := true) k3 k4 k5 k6 k7
    have hs1 : (newBlk s true (D.take p ++ ZS)).2 = { h := s.h ++ [{ gen := 0, arr := true, frz := false, cells := D.take p ++ ZS }], keep := s.keep } := rfl
    rw [hs1] at i1 st1
    have hcl : (D.take p ++ ZS).length = q + j.size := by rw [List.length_append, hDpl, hZl]; omega
    rw [hcl] at he1
    generalize hs1' : ({ h := s.h ++ [{ gen := 0, arr := true, frz := false, cells := D.take p ++ ZS }], keep := s.keep } : St) = s1 at i1 st1
    have hk1 : s1.h[s.h.length]? = some { gen := 0, arr := true, frz := false, cells := D.take p ++ ZS } := by rw [← hs1']; simp
    have hkp1 : s1.keep = s.keep := by rw [← hs1']
    have hkb1 : s1.h[b]? = some k := by rw [← hs1', List.getElem?_append_left hbl]; exact hk
    have hGi : i * j.size + (G - i) * j.size = G * j.size := mul_cap (by omega)
    have hGi1 : (i + 1) * j.size + (G - (i + 1)) * j.size = G * j.size := mul_cap (by omega)
    rw [hp] at hGi
    rw [hp1] at hGi1
    rw [hn1] at hGs
    have hdA : Rep Cm β1 (.sref s.h.length 0 p (c + 1 - i) j.size) (.slice (some ⟨w.heap.size, p, none⟩) (c + 1 - i) (G - i)) :=
      .sref he1 (Nat.le_refl _) (by omega) (fun _ => ⟨by simp, fun _ => by constructor <;> simp only <;> omega⟩)
    have hrepv : Rep Cm β1 (.sl mr cl j.size [row]) (.slice (some ⟨vb, vo, none⟩) 1 vcap) := (Rep.sl hcm hvcap hclip hrl hrr hrm hrb).mono st1.com st1.ble
    have hrl2 : refsL row ≤ s.h.length := by
      have h1 := hrr.refs_le
      have h2 : ([row] : List (List EV)).flatten = row := by simp
      rw [h2, h.len] at h1
      exact h1
    have hkpl := h.keep
    have hwA := writeE_ok (s := s1) (off := p) (cs := row) hk1 rfl rfl (by simp only [hcl]; omega) hrow (Nat.le_trans (Nat.le_succ_of_le hrl2) (Nat.le_max_left _ _))
    have hminA : min [row].length (c + 1 - i) = 1 := by simp; omega
    have hcA := copy_ok (b := s.h.length) (g := 0) (off := p) (n := c + 1 - i) (sz := j.size) (src := .sl mr cl j.size [row]) (rows := [row]) he rfl (by simp [EV.szIs]) rfl (by rw [hminA]; omega) (by rw [hminA]; simpa using hwA)
    obtain ⟨V2, w2, hrA, Cm2, β2, i2, st2, _⟩ := copy_sound (P := P) (ts := #[t, t]) (ty := t3) hC i1 hdA hrepv hcA
    have hl1 : s1.h.length = s.h.length + 1 := by rw [← hs1']; simp
    generalize hs2 : ({ h := s1.h.set s.h.length { gen := 0, arr := true, frz := false, cells := lsetN (D.take p ++ ZS) p row }, keep := s1.keep } : St) = s2 at i2 st2
    have hk2 : s2.h[s.h.length]? = some { gen := 0, arr := true, frz := false, cells := lsetN (D.take p ++ ZS) p row } := by rw [← hs2]; simp [hl1]
    have hkb2 : s2.h[b]? = some k := by rw [← hs2]; simp only [List.getElem?_set_ne (show s.h.length ≠ b by omega)]; exact hkb1
    have hkp2 : s2.keep = s.keep := by rw [← hs2]; exact hkp1
    have hl2 : s2.h.length = s.h.length + 1 := by rw [← hs2]; simpa using hl1
    have he2 := i2.at_gen st2.ble he1 hk2 rfl
    have heb2 : β2[b]? = some (some en) := i2.at_gen (st1.ble.trans st2.ble) hen hkb2 hgen.symm
    -- what stood from there on
    obtain ⟨i2d, st2d⟩ := Step.drew i2
    have hdB : Rep Cm2 β2 (.sref s.h.length 0 (p + j.size) (c + 1 - (i + 1)) j.size) (.slice (some ⟨w.heap.size, p + j.size, none⟩) (c + 1 - (i + 1)) (G - (i + 1))) :=
      .sref he2 (Nat.le_refl _) (by omega) (fun _ => ⟨by simp, fun _ => by constructor <;> simp only <;> omega⟩)
    have hsB : Rep Cm2 β2 (.sref b g (off + p) (c - i) j.size) (.slice (some ⟨en.blk, en.off + off + p, none⟩) (c - i) (c - i)) :=
      .sref heb2 (by rw [hgen, hg]; exact Nat.le_refl _) (Nat.le_refl _) (fun _ => ⟨by rw [Nat.add_assoc], fun _ => by rw [hni]; constructor <;> omega⟩)
    have hrowsB : srcRows s2 (.sref b g (off + p) (c - i) j.size) = some (chunk j.size (c - i) (k.cells.drop (off + p))) := by
      simp only [srcRows, rowsOf, St.blk, lget_eq, hkb2, hg, beq_self_eq_true, if_true]
      rw [if_pos (by rw [hni]; omega)]
    have hminB : min (chunk j.size (c - i) (k.cells.drop (off + p))).length (c + 1 - (i + 1)) = c - i := by rw [chunk_length]; omega
    have htail : ((chunk j.size (c - i) (k.cells.drop (off + p))).take (c - i)).flatten = D.drop p := by
      rw [chunk_take _ _ _ _ (Nat.le_refl _), chunk_flatten _ _ _ (by simp; rw [hni]; omega), hni, hDd, List.drop_take, List.drop_drop]
    have hcD : (D.drop p).all EV.isCell = true := List.all_eq_true.2 fun x hx => List.all_eq_true.1 (hDd ▸ hcells) x (List.mem_of_mem_drop hx)
    have hwB := writeE_ok (s := s2) (off := p + j.size) (cs := D.drop p) hk2 rfl rfl (by simp [length_lsetN, hDl, hZl]; omega) hcD (by rw [hkp2]; exact Nat.le_trans (refsL_drop_le D p) (Nat.le_trans hDrf (Nat.max_le.2 ⟨Nat.le_trans (by omega) (Nat.le_max_left _ _), Nat.le_max_right _ _⟩)))
    have hcB := copy_ok (b := s.h.length) (g := 0) (off := p + j.size) (n := c + 1 - (i + 1)) (sz := j.size) he rfl (by simp [EV.szIs]) hrowsB (by rw [hminB]; omega) (by rw [hminB, htail]; exact hwB)
    obtain ⟨V3, w3, hrB, Cm3, β3, i3, st3, _⟩ := copy_sound (P := P) (ts := #[t, t]) (ty := t3) hC i2d hdB hsB hcB
    have hcells3 : lsetN (lsetN (D.take p ++ ZS) p row) (p + j.size) (D.drop p) = insCells k.cells off c j.size i row := by
      rw [grow_cells D ZS row p j.size q hDl (by omega) hrl' hZl]
      unfold insCells
      rw [hq, hp, ← hDd]
    rw [hcells3] at i3 st3
    generalize hs3 : ({ h := s2.h.set s.h.length { gen := 0, arr := true, frz := false, cells := insCells k.cells off c j.size i row }, keep := s2.keep } : St) = s3 at i3 st3
    have hk3 : s3.h[s.h.length]? = some { gen := 0, arr := true, frz := false, cells := insCells k.cells off c j.size i row } := by rw [← hs3]; simp [hl2]
    have hkb3 : s3.h[b]? = some k := by rw [← hs3]; simp only [List.getElem?_set_ne (show s.h.length ≠ b by omega)]; exact hkb2
    have hkp3 : s3.keep = s.keep := by rw [← hs3]; exact hkp2
    have hl3 : s3.h.length = s.h.length + 1 := by rw [← hs3]; simpa using hl2
    have he3 := i3.at_gen st3.ble he2 hk3 rfl
    have stall := (((st1.trans st2).trans st2d).trans st3)
    have heb3 : β3[b]? = some (some en) := i3.at_gen stall.ble hen hkb3 hgen.symm
    have hcall := hW.fgrow (en.off + off) c c i (some ⟨vb, vo, none⟩) vcap w w.heap.size G en.blk w1 w2 w3 V2 V3 hin (Nat.le_refl _) (by omega) (by omega) k1 hrz (by rw [hp]; exact hrA) (by rw [hp1, hp]; exact hrB)
    refine hcall.mono fun e w' ⟨hret, hw'⟩ => ⟨_, hret, ?_⟩
    subst hw'
    have hok3 := i3.blk _ _ _ he3 hk3
    obtain ⟨c3, elem3, fr3, hmem3, hfc3, hrep3, _, hfr3⟩ := hok3.mem
    obtain rfl := hfr3 rfl
    have hil : (insCells k.cells off c j.size i row).length = q + j.size := by
      have := hok3.len
      simp only at this
      omega
    have hrefI : refsL (insCells k.cells off c j.size i row) ≤ max (b + 1) (if refsL row ≤ b + 1 then s.keep else max s.keep (refsL row)) := by
      unfold insCells
      rw [hq, hp, ← hDd, refsL_append, refsL_append]
      exact ins_refs (Nat.le_trans (refsL_take_le D p) hDrf) (Nat.le_trans (refsL_drop_le D p) hDrf)
    have hKl : (if refsL row ≤ b + 1 then s.keep else max s.keep (refsL row)) ≤ s.h.length := ins_keep hkpl hrl2
    have icut := i3.cut (n := s.h.length) (by omega) (by omega)
    have hlen3 := i3.len
    obtain ⟨i4, ble4, he4⟩ := icut.lay (b := b) (e := en) (e' := ⟨w.heap.size, 0, c1.size, g + 2, true, q + j.size⟩) (k' := { gen := g + 2, arr := true, frz := false, cells := insCells k.cells off c j.size i row }) (by rw [List.getElem?_take, if_pos hbl]; exact heb3) rfl
      (keep' := if refsL row ≤ b + 1 then s.keep else max s.keep (refsL row)) (by rw [show ({ h := s3.h.take s.h.length, keep := s3.keep } : St).keep = s.keep from hkp3]; exact keep_ins) (by simp [hl3]; exact hKl)
      (.inr (by simp only; omega)) rfl rfl (by simp only; omega) (by simp only; omega) hrefI hmem3 hfc3 (by
        refine RepL.cut (by omega) (by simpa using hrep3) (Nat.le_trans hrefI (Nat.max_le.2 ⟨by omega, hKl⟩))) (fun x ee hx hex z => by
          rw [List.getElem?_take] at hex
          split at hex
          · rename_i hxl
            exact i3.dis s.h.length x _ ee _ (by omega) he3 hex hk3 rfl z.symm
          · cases hex) (show Cm3 w.heap.size = none from i3.unc _ _ _ he3 hk3 rfl)
    have st := stall.lay h.len hen heb3 (e' := ⟨w.heap.size, 0, c1.size, g + 2, true, q + j.size⟩) (k' := { gen := g + 2, arr := true, frz := false, cells := insCells k.cells off c j.size i row }) (.inr (by simp only; omega)) (N := s.h.length) (keep' := if refsL row ≤ b + 1 then s.keep else max s.keep (refsL row)) (Nat.le_refl _) (by omega) (.inr (Nat.le_refl _))
    have hfinal : s3.h.take s.h.length = s.h := by
      rw [← hs3, ← hs2, ← hs1']
      simp
    simp only [hfinal] at i4 st
    rw [lset_eq]
    exact ⟨Cm3, _, i4, st, .sref he4 (Nat.le_refl _) k1 (fun _ => ⟨rfl, fun _ => by simp only; omega⟩)⟩

theorem insE_sound (hC : CtxOk P C) {F fo t t3 e tb : TypeId} {j i3 : TI} (hW : InsWalk P F fo t t3 j.size) (hF : ∃ fn, P.funcs[F]? = some fn ∧ fn.name ≠ "runtime.NumGoroutine" ∧ fn.body.isSome = true) (he : elemTI C t = some (e, j)) (h3 : C.ti t3 = some i3) (h3d : i3.desc = .int .i64)
    (hx : IsExt P fo (Extern.SlicesOverlaps.overlaps #[t, t] #[tb])) {args : List EV} (hop : insE C t args s = some (v, s')) (h : SInv Cm β s w) {A : Array Value} (hr : RepL Cm β args A.toList) : FRuns P F A w (Post Cm β s w v s') := by
  obtain ⟨fn, hf1, hf2, hf3⟩ := hF
  unfold insE at hop
  split at hop
  · rename_i x i mr cl z row
    split at hop
    · rename_i n hn
      obtain ⟨X, Y, Z, hA, hX, hY, hZ⟩ : ∃ X Y Z, A.toList = [X, Y, Z] ∧ Rep Cm β x X ∧ Rep Cm β (.int .i64 i) Y ∧ Rep Cm β (.sl mr cl z [row]) Z := by
        generalize A.toList = L at hr
        cases hr with
        | cons h1 t1 => cases t1 with
          | cons h2 t2 => cases t2 with
            | cons h3 t3 => cases t3; exact ⟨_, _, _, rfl, h1, h2, h3⟩
      rw [array_of_list hA]
      cases hY
      split at hop
      · rename_i hin
        subst hin
        rcases lenE_rep hX hn with ⟨base, c, rfl⟩ | ⟨s0, rfl, _⟩
        · obtain ⟨R, w1, hrun, hp⟩ := append_sound (ts := #[t, t]) (ty := t) hC h hX hZ hop
          cases hZ with
          | sl hcm hvcap hclip hrl hrr hrm hrb =>
            exact .inl ⟨fn, hf1, hf2, hf3, (hW.fend base n c _ _ w R w1 hrun).mono fun e w' ⟨h1, h2⟩ => ⟨R, h1, by subst h2; exact hp⟩⟩
        · unfold appendE at hop
          split at hop
          · split at hop
            · cases hop
            · cases hop
          · cases hop
      · rename_i hin
        split at hop
        · rename_i b g off n' sz _ j' he'
          rw [he] at he'; cases he'
          simp only [lenE, Option.some.injEq] at hn
          subst hn
          split at hop
          · rename_i k hk
            obtain ⟨hk, hg⟩ := blk_some hk
            split at hop
            · rename_i hcond
              simp only [Bool.and_eq_true, decide_eq_true_eq, Bool.not_eq_true'] at hcond
              obtain ⟨⟨⟨⟨⟨⟨⟨⟨⟨⟨⟨hi0, hilt⟩, harr⟩, hfrz⟩, hz⟩, hsz⟩, hpos⟩, hroom⟩, hzo⟩, hle⟩, hcells⟩, hrow⟩ := hcond
              subst hsz
              subst hz
              cases hop
              obtain ⟨m, rfl⟩ := Int.eq_ofNat_of_zero_le hi0
              simp only [Int.toNat_natCast]
              have hmlt : m < n' := by omega
              obtain ⟨_, hr2, _⟩ := roomOk_some hroom
              cases hX with
              | sref hen hge hcap hv =>
                rename_i en A' c
                have hok := h.blk b en k hen hk
                obtain ⟨rfl, hfit⟩ := hv (by rw [hok.gen, hg])
                obtain ⟨hc1, hc2⟩ := hfit (by rw [hok.arr]; exact harr)
                rw [hok.len] at hc1
                by_cases hcn : n' + 1 ≤ c
                · exact .inl ⟨fn, hf1, hf2, hf3, ins_shift hC hW he hx h hen hk hg hmlt harr hfrz hpos (by omega) hle hcells hrow hZ hc1 hc2 hcn⟩
                · exact .inl ⟨fn, hf1, hf2, hf3, ins_grow hC hW he h3 h3d h hen hk hg hmlt harr hfrz hpos hroom hzo hle hcells hrow hZ hc1 hc2 hcap (by omega)⟩
            · cases hop
          · cases hop
        · cases hop
    · cases hop
  · cases hop
end
end Go.Ev
