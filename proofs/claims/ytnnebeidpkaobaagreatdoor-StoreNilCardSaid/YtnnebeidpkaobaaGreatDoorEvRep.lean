/- What abstract values and states stand for in a world. -/
import Derived.Test.YtnnebeidpkaobaaGreatDoorEvDef
import Derived.Orders
import Derived.Laws.Sem
import Derived.Laws.World
import Derived.Deep.Draws
set_option linter.unusedVariables false
set_option linter.unusedSimpArgs false
set_option linter.unusedSectionVars false
namespace Go.Ev
open Go
set_option linter.unusedSectionVars false

theorem lget_eq {α : Type} : ∀ (l : List α) (n : Nat), lget l n = l[n]?
  | [], n => by simp [lget]
  | a :: l, 0 => by simp [lget]
  | a :: l, n + 1 => by simp [lget, lget_eq l n]

theorem lset_eq {α : Type} : ∀ (l : List α) (n : Nat) (x : α), lset l n x = l.set n x
  | [], n, x => by simp [lset]
  | a :: l, 0, x => by simp [lset]
  | a :: l, n + 1, x => by simp [lset, lset_eq l n x]

/-- Where a block of the abstract heap lies. -/
structure Ent where
  blk : Nat
  off : Nat
  fin : Nat
  gen : Nat
  arr : Bool
  len : Nat

/-- Blocks that are never written again, with their cells. -/
abbrev Com := Nat → Option (Array Value)
abbrev Bm := List (Option Ent)

mutual
inductive Rep (Cm : Com) (β : Bm) : EV → Value → Prop
  | bool (b : Bool) : Rep Cm β (.bool b) (.bool b)
  | int (k : IntKind) (n : Int) : Rep Cm β (.int k n) (.int k n)
  | str (s : ByteArray) : Rep Cm β (.str s) (.string s)
  | nilptr : Rep Cm β .nilptr (.pointer none)
  | ptr {b g o : Nat} {e : Ent} {A : Addr} (h : β[b]? = some (some e)) (hg : g ≤ e.gen) (hv : g = e.gen → A = ⟨e.blk, e.off + o, none⟩) : Rep Cm β (.ptr b g o) (.pointer (some A))
  | cptr {m : Nat} {cs : List EV} {blk off : Nat} {c : Array Value} (hc : Cm blk = some c) (hr : RepL Cm β cs ((c.toList.drop off).take cs.length)) (hm : refsL cs ≤ m) (hb : m ≤ β.length) :
      Rep Cm β (.cptr m cs) (.pointer (some ⟨blk, off, none⟩))
  | nilsl : Rep Cm β .nilsl (.slice none 0 0)
  | esl (A : Addr) (c : Nat) : Rep Cm β .esl (.slice (some A) 0 c)
  | sl {m : Nat} {clip : Bool} {sz : Nat} {rows : List (List EV)} {blk off cap : Nat} {c : Array Value} (hc : Cm blk = some c) (hcap : rows.length ≤ cap) (hclip : clip = true → cap = rows.length)
      (hsz : ∀ r ∈ rows, r.length = sz) (hr : RepL Cm β rows.flatten ((c.toList.drop off).take (rows.length * sz))) (hm : refsLL rows ≤ m) (hb : m ≤ β.length) :
      Rep Cm β (.sl m clip sz rows) (.slice (some ⟨blk, off, none⟩) rows.length cap)
  | sref {b g o n sz : Nat} {e : Ent} {A : Addr} {c : Nat} (h : β[b]? = some (some e)) (hg : g ≤ e.gen) (hn : n ≤ c)
      (hv : g = e.gen → A = ⟨e.blk, e.off + o, none⟩ ∧ (e.arr = true → e.len ≤ o + c * sz ∧ e.off + o + c * sz ≤ e.fin)) : Rep Cm β (.sref b g o n sz) (.slice (some A) n c)
  | fn {f : Fn} {a b : List EV} {A B : Array Value} (ha : RepL Cm β a A.toList) (hb : RepL Cm β b B.toList) : Rep Cm β (.fn f a b) (.func f A B)
  | nilfn : Rep Cm β .nilfn .nilFunc
  | iface {t : TypeId} {v : EV} {V : Value} (h : Rep Cm β v V) : Rep Cm β (.iface t v) (.iface t V)
  | niliface : Rep Cm β .niliface .nilIface
  | agg {cs : List EV} {A : Array Value} (h : RepL Cm β cs A.toList) : Rep Cm β (.agg cs) (.agg A)
  | tup {cs : List EV} {A : Array Value} (h : RepL Cm β cs A.toList) : Rep Cm β (.tup cs) (.tuple A)
  | dead (V : Value) : Rep Cm β .dead V
inductive RepL (Cm : Com) (β : Bm) : List EV → List Value → Prop
  | nil : RepL Cm β [] []
  | cons {v : EV} {V : Value} {vs : List EV} {Vs : List Value} (h : Rep Cm β v V) (t : RepL Cm β vs Vs) : RepL Cm β (v :: vs) (V :: Vs)
end

/-- Later places: more blocks; a block is as it was, or of a later generation. -/
def BLe (β β' : Bm) : Prop := β.length ≤ β'.length ∧ ∀ (b : Nat) (e : Ent), β[b]? = some (some e) → ∃ e', β'[b]? = some (some e') ∧ (e' = e ∨ e.gen < e'.gen)

def CLe (C C' : Com) : Prop := ∀ b c, C b = some c → C' b = some c

theorem CLe.refl (C : Com) : CLe C C := fun _ _ h => h
theorem CLe.trans {A B C : Com} (h : CLe A B) (k : CLe B C) : CLe A C := fun b c e => k b c (h b c e)
theorem BLe.refl (β : Bm) : BLe β β := ⟨Nat.le_refl _, fun _ e h => ⟨e, h, .inl rfl⟩⟩
theorem BLe.trans {A B C : Bm} (h : BLe A B) (k : BLe B C) : BLe A C := by
  refine ⟨Nat.le_trans h.1 k.1, fun b e he => ?_⟩
  obtain ⟨e', h1, h2⟩ := h.2 b e he
  obtain ⟨e'', k1, k2⟩ := k.2 b e' h1
  refine ⟨e'', k1, ?_⟩
  rcases h2 with rfl | h2 <;> rcases k2 with rfl | k2
  · exact .inl rfl
  · exact .inr k2
  · exact .inr h2
  · exact .inr (Nat.lt_trans h2 k2)

section mono
variable {Cm Cm' : Com} {β β' : Bm} (hc : CLe Cm Cm') (hb : BLe β β')
include hc hb
mutual
theorem Rep.mono : ∀ {v : EV} {V : Value}, Rep Cm β v V → Rep Cm' β' v V
  | _, _, .bool b => .bool b
  | _, _, .int k n => .int k n
  | _, _, .str s => .str s
  | _, _, .nilptr => .nilptr
  | _, _, .ptr h hg hv => by
    obtain ⟨e', h1, h2⟩ := hb.2 _ _ h
    rcases h2 with rfl | h2
    · exact .ptr h1 hg hv
    · exact .ptr h1 (by omega) (fun e => absurd e (by omega))
  | _, _, .cptr hC hr hm hB => .cptr (hc _ _ hC) (RepL.mono hr) hm (Nat.le_trans hB hb.1)
  | _, _, .nilsl => .nilsl
  | _, _, .esl A c => .esl A c
  | _, _, .sl hC hcap hclip hsz hr hm hB => .sl (hc _ _ hC) hcap hclip hsz (RepL.mono hr) hm (Nat.le_trans hB hb.1)
  | _, _, .sref h hg hn hv => by
    obtain ⟨e', h1, h2⟩ := hb.2 _ _ h
    rcases h2 with rfl | h2
    · exact .sref h1 hg hn hv
    · exact .sref h1 (by omega) hn (fun e => absurd e (by omega))
  | _, _, .fn ha hB => .fn (RepL.mono ha) (RepL.mono hB)
  | _, _, .nilfn => .nilfn
  | _, _, .iface h => .iface (Rep.mono h)
  | _, _, .niliface => .niliface
  | _, _, .agg h => .agg (RepL.mono h)
  | _, _, .tup h => .tup (RepL.mono h)
  | _, _, .dead V => .dead V
theorem RepL.mono : ∀ {vs : List EV} {Vs : List Value}, RepL Cm β vs Vs → RepL Cm' β' vs Vs
  | _, _, .nil => .nil
  | _, _, .cons h t => .cons (Rep.mono h) (RepL.mono t)
end
end mono

theorem refsL_append (a b : List EV) : refsL (a ++ b) = max (refsL a) (refsL b) := by
  induction a with
  | nil => simp [refsL]
  | cons x xs ih => simp [refsL, ih, Nat.max_assoc]

theorem refsL_flatten (rows : List (List EV)) : refsL rows.flatten = refsLL rows := by
  induction rows with
  | nil => simp [refsL, refsLL]
  | cons r rs ih => simp [refsLL, refsL_append, ih]

section cut
variable {Cm : Com} {β : Bm} {c : Nat} (hcl : c ≤ β.length)
include hcl
theorem at_take {b : Nat} {e : Option Ent} (h : β[b]? = some e) (hb : b < c) : (β.take c)[b]? = some e := by
  rw [List.getElem?_take, if_pos hb]; exact h
theorem len_take : (β.take c).length = c := by simp; omega
mutual
theorem Rep.cut : ∀ {v : EV} {V : Value}, Rep Cm β v V → v.refs ≤ c → Rep Cm (β.take c) v V
  | _, _, .bool b, _ => .bool b
  | _, _, .int k n, _ => .int k n
  | _, _, .str s, _ => .str s
  | _, _, .nilptr, _ => .nilptr
  | _, _, .ptr h hg hv, hr => .ptr (at_take hcl h (by simp [EV.refs] at hr; omega)) hg hv
  | _, _, .cptr hC hL hm hB, hr => .cptr hC (RepL.cut hL (Nat.le_trans hm (by simpa [EV.refs] using hr))) hm (by rw [len_take hcl]; simpa [EV.refs] using hr)
  | _, _, .nilsl, _ => .nilsl
  | _, _, .esl A c, _ => .esl A c
  | _, _, .sl hC hcap hclip hsz hL hm hB, hr => .sl hC hcap hclip hsz (RepL.cut hL (by rw [refsL_flatten]; exact Nat.le_trans hm (by simpa [EV.refs] using hr))) hm (by rw [len_take hcl]; simpa [EV.refs] using hr)
  | _, _, .sref h hg hn hv, hr => .sref (at_take hcl h (by simp [EV.refs] at hr; omega)) hg hn hv
  | _, _, .fn ha hB, hr => .fn (RepL.cut ha (by simp [EV.refs] at hr; omega)) (RepL.cut hB (by simp [EV.refs] at hr; omega))
  | _, _, .nilfn, _ => .nilfn
  | _, _, .iface h, hr => .iface (Rep.cut h (by simpa [EV.refs] using hr))
  | _, _, .niliface, _ => .niliface
  | _, _, .agg h, hr => .agg (RepL.cut h (by simpa [EV.refs] using hr))
  | _, _, .tup h, hr => .tup (RepL.cut h (by simpa [EV.refs] using hr))
  | _, _, .dead V, _ => .dead V
theorem RepL.cut : ∀ {vs : List EV} {Vs : List Value}, RepL Cm β vs Vs → refsL vs ≤ c → RepL Cm (β.take c) vs Vs
  | _, _, .nil, _ => .nil
  | _, _, .cons h t, hr => .cons (Rep.cut h (by simp [refsL] at hr; omega)) (RepL.cut t (by simp [refsL] at hr; omega))
end
end cut

mutual
/-- What a value leads to is there. -/
theorem Rep.refs_le {Cm : Com} {β : Bm} : ∀ {v : EV} {V : Value}, Rep Cm β v V → v.refs ≤ β.length
  | _, _, .bool _ | _, _, .int _ _ | _, _, .str _ | _, _, .nilptr | _, _, .nilsl | _, _, .esl _ _ | _, _, .nilfn | _, _, .niliface | _, _, .dead _ => by simp [EV.refs]
  | _, _, .ptr h _ _ => by have := (List.getElem?_eq_some_iff.1 h).1; simp [EV.refs]; omega
  | _, _, .cptr _ _ _ hB => by simpa [EV.refs] using hB
  | _, _, .sl _ _ _ _ _ _ hB => by simpa [EV.refs] using hB
  | _, _, .sref h _ _ _ => by have := (List.getElem?_eq_some_iff.1 h).1; simp [EV.refs]; omega
  | _, _, .fn ha hB => by have := RepL.refs_le ha; have := RepL.refs_le hB; simp [EV.refs]; omega
  | _, _, .iface h => by simpa [EV.refs] using Rep.refs_le h
  | _, _, .agg h => by simpa [EV.refs] using RepL.refs_le h
  | _, _, .tup h => by simpa [EV.refs] using RepL.refs_le h
theorem RepL.refs_le {Cm : Com} {β : Bm} : ∀ {vs : List EV} {Vs : List Value}, RepL Cm β vs Vs → refsL vs ≤ β.length
  | _, _, .nil => by simp [refsL]
  | _, _, .cons h t => by have := Rep.refs_le h; have := RepL.refs_le t; simp [refsL]; omega
end

section repL
variable {Cm : Com} {β : Bm}

theorem RepL.length {vs : List EV} {Vs : List Value} (h : RepL Cm β vs Vs) : vs.length = Vs.length := by
  induction vs generalizing Vs with
  | nil => cases h; rfl
  | cons v vs ih => cases h with | cons h t => simp [ih t]

theorem RepL.get {vs : List EV} {Vs : List Value} (h : RepL Cm β vs Vs) {i : Nat} {v : EV} (hv : vs[i]? = some v) : ∃ V, Vs[i]? = some V ∧ Rep Cm β v V := by
  induction vs generalizing Vs i with
  | nil => simp at hv
  | cons x xs ih =>
    cases h with
    | cons h t =>
      cases i with
      | zero => simp at hv; subst hv; exact ⟨_, rfl, h⟩
      | succ i => simp at hv; exact ih t (by simpa using hv)

theorem RepL.append {a b : List EV} {A B : List Value} (h : RepL Cm β a A) (k : RepL Cm β b B) : RepL Cm β (a ++ b) (A ++ B) := by
  induction a generalizing A with
  | nil => cases h; simpa using k
  | cons v vs ih => cases h with | cons h t => exact .cons h (ih t)

theorem RepL.drop {vs : List EV} {Vs : List Value} (h : RepL Cm β vs Vs) (n : Nat) : RepL Cm β (vs.drop n) (Vs.drop n) := by
  induction n generalizing vs Vs with
  | zero => simpa using h
  | succ n ih => cases h with
    | nil => simpa using RepL.nil
    | cons h t => simpa using ih t

theorem RepL.take {vs : List EV} {Vs : List Value} (h : RepL Cm β vs Vs) (n : Nat) : RepL Cm β (vs.take n) (Vs.take n) := by
  induction n generalizing vs Vs with
  | zero => simpa using RepL.nil
  | succ n ih => cases h with
    | nil => simpa using RepL.nil
    | cons h t => simpa using .cons h (ih t)

theorem RepL.set {vs : List EV} {Vs : List Value} (h : RepL Cm β vs Vs) (n : Nat) {v : EV} {V : Value} (hv : Rep Cm β v V) : RepL Cm β (vs.set n v) (Vs.set n V) := by
  induction vs generalizing Vs n with
  | nil => cases h; simpa using RepL.nil
  | cons x xs ih => cases h with
    | cons h t => cases n with
      | zero => simpa using .cons hv t
      | succ n => simpa using .cons h (ih t n)

theorem RepL.replicate {v : EV} {V : Value} (h : Rep Cm β v V) (n : Nat) : RepL Cm β (List.replicate n v) (List.replicate n V) := by
  induction n with
  | zero => exact .nil
  | succ n ih => exact .cons h ih

theorem RepL.of_get {vs : List EV} {Vs : List Value} (hl : vs.length = Vs.length) (h : ∀ (i : Nat) v V, vs[i]? = some v → Vs[i]? = some V → Rep Cm β v V) : RepL Cm β vs Vs := by
  induction vs generalizing Vs with
  | nil => cases Vs with
    | nil => exact .nil
    | cons => simp at hl
  | cons x xs ih => cases Vs with
    | nil => simp at hl
    | cons y ys => exact .cons (h 0 x y rfl rfl) (ih (by simpa using hl) fun i v V hv hV => h (i + 1) v V (by simpa using hv) (by simpa using hV))

theorem RepL.one {v : EV} {V : Value} (h : Rep Cm β v V) : RepL Cm β [v] [V] := .cons h .nil
end repL

/-- A cell's value fits one cell. -/
theorem Rep.oneCell {Cm : Com} {β : Bm} {v : EV} {V : Value} (h : Rep Cm β v V) (hc : v.isCell = true) : V.oneCell' = true := by
  cases h <;> first | rfl | (simp [EV.isCell] at hc; done)

/- States. -/

structure BlkOk (Cm : Com) (β : Bm) (keep i : Nat) (e : Ent) (k : Blk) (w : World) : Prop where
  gen : e.gen = k.gen
  arr : e.arr = k.arr
  len : e.len = k.cells.length
  fin : e.off + e.len ≤ e.fin
  refs : refsL k.cells ≤ max (i + 1) keep
  mem : ∃ c elem fr, w.heap[e.blk]? = some (.cells c elem fr) ∧ e.fin ≤ c.size ∧ RepL Cm β k.cells ((c.toList.drop e.off).take e.len) ∧ (k.frz = true → Cm e.blk = some c) ∧ (k.frz = false → fr = (0, 0))

structure SInv (Cm : Com) (β : Bm) (s : St) (w : World) : Prop where
  len : β.length = s.h.length
  blk : ∀ (i : Nat) (e : Ent) (k : Blk), β[i]? = some (some e) → s.h[i]? = some k → BlkOk Cm β s.keep i e k w
  com : ∀ b c, Cm b = some c → ∃ elem fr, w.heap[b]? = some (.cells c elem fr)
  dis : ∀ (i j : Nat) (e e' : Ent) (k : Blk), i ≠ j → β[i]? = some (some e) → β[j]? = some (some e') → s.h[i]? = some k → k.frz = false → e.blk ≠ e'.blk
  unc : ∀ (i : Nat) (e : Ent) (k : Blk), β[i]? = some (some e) → s.h[i]? = some k → k.frz = false → Cm e.blk = none
  keep : s.keep ≤ s.h.length

def Own (β : Bm) (s : St) (b : Nat) : Prop := ∃ (i : Nat) (e : Ent) (k : Blk), β[i]? = some (some e) ∧ s.h[i]? = some k ∧ k.frz = false ∧ e.blk = b

structure Step (Cm : Com) (β : Bm) (s : St) (w : World) (Cm' : Com) (β' : Bm) (s' : St) (w' : World) : Prop where
  com : CLe Cm Cm'
  ble : BLe β β'
  os : w'.os = w.os
  tape : w'.tape = w.tape
  output : w'.output = w.output
  size : w.heap.size ≤ w'.heap.size
  frame : ∀ b, b < w.heap.size → ¬ Own β s b → w'.heap[b]? = w.heap[b]?
  own : ∀ b, Own β' s' b → Own β s b ∨ w.heap.size ≤ b
  cnew : ∀ b c, Cm' b = some c → Cm b = some c ∨ Own β s b ∨ w.heap.size ≤ b
  unp : ∀ (b : Nat), β[b]? = some none → β'[b]? = some none ∧ s'.h[b]? = s.h[b]?

theorem Step.refl (Cm : Com) (β : Bm) (s : St) (w : World) : Step Cm β s w Cm β s w :=
  ⟨.refl _, .refl _, rfl, rfl, rfl, Nat.le_refl _, fun _ _ _ => rfl, fun _ h => .inl h, fun _ _ h => .inl h, fun _ h => ⟨h, rfl⟩⟩

theorem Step.trans {Cm Cm' Cm'' : Com} {β β' β'' : Bm} {s s' s'' : St} {w w' w'' : World} (h : Step Cm β s w Cm' β' s' w') (k : Step Cm' β' s' w' Cm'' β'' s'' w'') : Step Cm β s w Cm'' β'' s'' w'' := by
  refine ⟨h.com.trans k.com, h.ble.trans k.ble, k.os.trans h.os, k.tape.trans h.tape, k.output.trans h.output, Nat.le_trans h.size k.size, fun b hb hn => ?_, fun b hb => ?_, fun b c hc => ?_, fun b hb => ⟨(k.unp b (h.unp b hb).1).1, (k.unp b (h.unp b hb).1).2.trans (h.unp b hb).2⟩⟩
  · rw [k.frame b (Nat.lt_of_lt_of_le hb h.size) fun ho => (h.own b ho).elim hn (by omega), h.frame b hb hn]
  · rcases k.own b hb with h1 | h1
    · exact h.own b h1
    · exact .inr (Nat.le_trans h.size h1)
  · rcases k.cnew b c hc with h1 | h1 | h1
    · exact h.cnew b c h1
    · exact .inr (h.own b h1)
    · exact .inr (.inr (Nat.le_trans h.size h1))

/- Slots. -/

def Deep : Nat → Tree → Prop
  | 0, .leaf _ => True
  | d + 1, .node l r => Deep d l ∧ Deep d r
  | _, _ => False

theorem Deep.mk (vs : List EV) : ∀ (d i st : Nat), Deep d (Tree.mk vs d i st)
  | 0, _, _ => trivial
  | d + 1, _, _ => ⟨Deep.mk vs d _ _, Deep.mk vs d _ _⟩

theorem get_mk (vs : List EV) : ∀ (d i st n : Nat), n < 2 ^ d → (Tree.mk vs d i st).get n = (lget vs (i + n * st)).getD undefE
  | 0, i, st, n, h => by
    obtain rfl : n = 0 := by simpa using h
    simp [Tree.mk, Tree.get]
  | d + 1, i, st, n, h => by
    have hd : n / 2 < 2 ^ d := by rw [Nat.pow_succ] at h; omega
    have hn := Nat.mod_add_div n 2
    simp only [Tree.mk, Tree.get]
    cases hb : Nat.beq (Nat.mod n 2) 0 with
    | true =>
      have h0 : n % 2 = 0 := Nat.eq_of_beq_eq_true hb
      show (Tree.mk vs d i (Nat.mul 2 st)).get (n / 2) = _
      rw [get_mk vs d i _ _ hd]
      have : i + n / 2 * (Nat.mul 2 st) = i + n * st := by
        show i + n / 2 * (2 * st) = i + n * st
        have : n = 2 * (n / 2) := by omega
        rw [← Nat.mul_assoc, Nat.mul_comm (n / 2) 2, ← this]
      rw [this]
    | false =>
      have h1 : n % 2 = 1 := by
        have : n % 2 ≠ 0 := fun e => by rw [show Nat.mod n 2 = 0 from e] at hb; cases hb
        omega
      show (Tree.mk vs d (i + st) (Nat.mul 2 st)).get (n / 2) = _
      rw [get_mk vs d _ _ _ hd]
      have : i + st + n / 2 * (Nat.mul 2 st) = i + n * st := by
        show i + st + n / 2 * (2 * st) = i + n * st
        have : n = 2 * (n / 2) + 1 := by omega
        have h2 : n * st = (2 * (n / 2) + 1) * st := by rw [← this]
        rw [h2, Nat.add_mul, Nat.one_mul, ← Nat.mul_assoc, Nat.mul_comm (n / 2) 2]
        omega
      rw [this]

theorem Deep.set : ∀ {d : Nat} {t : Tree} (n : Nat) (v : EV), Deep d t → Deep d (t.set n v)
  | 0, .leaf _, _, _, _ => trivial
  | d + 1, .node l r, n, v, ⟨hl, hr⟩ => by
    simp only [Tree.set]
    cases Nat.beq (Nat.mod n 2) 0 with
    | true => exact ⟨Deep.set _ v hl, hr⟩
    | false => exact ⟨hl, Deep.set _ v hr⟩

theorem beq_mod (n : Nat) : Nat.beq (Nat.mod n 2) 0 = decide (n % 2 = 0) := by
  show (Nat.beq (n % 2) 0) = _
  by_cases h : n % 2 = 0
  · simp [h]
  · have : n % 2 = 1 := by omega
    rw [this]; simp; rfl

theorem get_set : ∀ {d : Nat} {t : Tree} (n m : Nat) (v : EV), Deep d t → n < 2 ^ d → m < 2 ^ d → (t.set n v).get m = if m = n then v else t.get m
  | 0, .leaf _, n, m, v, _, hn, hm => by
    obtain rfl : n = 0 := by simpa using hn
    obtain rfl : m = 0 := by simpa using hm
    simp [Tree.set, Tree.get]
  | d + 1, .node l r, n, m, v, ⟨hl, hr⟩, hn, hm => by
    have hn' : n / 2 < 2 ^ d := by rw [Nat.pow_succ] at hn; omega
    have hm' : m / 2 < 2 ^ d := by rw [Nat.pow_succ] at hm; omega
    simp only [Tree.set, beq_mod]
    by_cases h1 : n % 2 = 0 <;> by_cases h2 : m % 2 = 0
    · simp only [h1, decide_true, Tree.get, beq_mod, h2]
      rw [show Nat.div n 2 = n / 2 from rfl, show Nat.div m 2 = m / 2 from rfl, get_set _ _ v hl hn' hm']
      by_cases e : m = n
      · simp [e]
      · rw [if_neg (by omega), if_neg e]
    · simp only [h1, decide_true, Tree.get, beq_mod, h2, decide_false]
      rw [if_neg (by omega)]
    · simp only [h1, decide_false, Tree.get, beq_mod, h2, decide_true]
      rw [if_neg (by omega)]
    · simp only [h1, decide_false, Tree.get, beq_mod, h2]
      rw [show Nat.div n 2 = n / 2 from rfl, show Nat.div m 2 = m / 2 from rfl, get_set _ _ v hr hn' hm']
      by_cases e : m = n
      · simp [e]
      · rw [if_neg (by omega), if_neg e]

structure TmOk (Cm : Com) (β : Bm) (tm : Tm) (T : Array Value) : Prop where
  size : tm.size = T.size
  deep : ∃ d, Deep d tm.t ∧ tm.size ≤ 2 ^ d
  get : ∀ t, t < T.size → Rep Cm β (tmGet tm t) (T.getD t undef)

theorem TmOk.mono {Cm Cm' : Com} {β β' : Bm} {tm : Tm} {T : Array Value} (h : TmOk Cm β tm T) (hc : CLe Cm Cm') (hb : BLe β β') : TmOk Cm' β' tm T :=
  ⟨h.size, h.deep, fun t ht => (h.get t ht).mono hc hb⟩

theorem ble_succ (t n : Nat) : Nat.ble (Nat.succ t) n = decide (t < n) := by
  by_cases h : t < n
  · rw [decide_eq_true h]; exact Nat.ble_eq_true_of_le h
  · rw [decide_eq_false h]
    cases hb : Nat.ble (Nat.succ t) n with
    | false => rfl
    | true => exact absurd (Nat.le_of_ble_eq_true hb) h

theorem tmGet_of_ge {tm : Tm} {t : Nat} (h : tm.size ≤ t) : tmGet tm t = undefE := by
  unfold tmGet; rw [ble_succ, decide_eq_false (by omega)]

theorem tmSet_of_ge {tm : Tm} {t : Nat} {v : EV} (h : tm.size ≤ t) : tmSet tm t v = tm := by
  unfold tmSet; rw [ble_succ, decide_eq_false (by omega)]

theorem tmSet_size (tm : Tm) (t : Nat) (v : EV) : (tmSet tm t v).size = tm.size := by
  unfold tmSet; split <;> rfl

theorem tmGet_tmSet {tm : Tm} {d : Nat} (hd : Deep d tm.t) (hs : tm.size ≤ 2 ^ d) (t u : Nat) (v : EV) : tmGet (tmSet tm t v) u = if u = t ∧ t < tm.size then v else tmGet tm u := by
  by_cases ht : t < tm.size
  · by_cases hu : u < tm.size
    · have e1 : tmSet tm t v = { tm with t := tm.t.set t v } := by unfold tmSet; rw [ble_succ, decide_eq_true ht]
      rw [e1]
      unfold tmGet
      simp only [ble_succ]
      rw [decide_eq_true hu]
      simp only []
      rw [get_set t u v hd (by omega) (by omega)]
      by_cases e : u = t <;> simp [e, ht]
    · rw [tmGet_of_ge (by rw [tmSet_size]; omega), if_neg (by omega), tmGet_of_ge (by omega)]
  · rw [tmSet_of_ge (by omega), if_neg (by omega)]

theorem Rep.undef {Cm : Com} {β : Bm} : Rep Cm β undefE undef := .tup (A := #[]) .nil

theorem TmOk.at {Cm : Com} {β : Bm} {tm : Tm} {T : Array Value} (h : TmOk Cm β tm T) (t : Nat) : Rep Cm β (tmGet tm t) (T.getD t undef) := by
  by_cases ht : t < T.size
  · exact h.get t ht
  · rw [tmGet_of_ge (by have := h.size; omega), Array.getD_eq_getD_getElem?, Array.getElem?_eq_none (by omega)]
    exact .undef

theorem TmOk.put {Cm : Com} {β : Bm} {tm : Tm} {a : Act} (h : TmOk Cm β tm a.tmps) (dst : Option Tmp) {v : EV} {V : Value} (hv : Rep Cm β v V) : TmOk Cm β (putE tm dst v) (a.put dst V).tmps := by
  cases dst with
  | none => exact h
  | some d =>
    obtain ⟨n, hd, hs⟩ := h.deep
    have hsz := h.size
    simp only [putE, Act.put]
    refine ⟨by rw [tmSet_size]; simpa using hsz, ⟨n, ?_, by rw [tmSet_size]; exact hs⟩, fun t ht => ?_⟩
    · unfold tmSet; split
      · exact Deep.set _ _ hd
      · exact hd
    · rw [tmGet_tmSet hd hs]
      simp only [Array.size_setIfInBounds] at ht
      by_cases e : t = d ∧ d < tm.size
      · obtain ⟨rfl, h2⟩ := e
        rw [if_pos ⟨rfl, h2⟩]
        simpa [Array.getD_eq_getD_getElem?, ht] using hv
      · rw [if_neg e]
        have : t ≠ d := fun e' => e ⟨e', by rw [hsz]; exact e' ▸ ht⟩
        have hg := h.get t ht
        simpa [Array.getD_eq_getD_getElem?, Array.getElem?_setIfInBounds_ne (Ne.symm this)] using hg

theorem levels_ok (n : Nat) : n ≤ 2 ^ levels n := by
  unfold levels
  repeat' split
  all_goals first | omega | exact Nat.le_of_lt Nat.lt_two_pow_self

theorem TmOk.new {Cm : Com} {β : Bm} {args : List EV} {A : Array Value} {m : Nat} (h : RepL Cm β args A.toList) :
    TmOk Cm β (tmNew args (max args.length m)) (A ++ Array.replicate (m - A.size) undef) := by
  have hl := h.length
  simp only [Array.length_toList] at hl
  have hlv := levels_ok (max args.length m)
  refine ⟨?_, ⟨levels (max args.length m), Deep.mk _ _ _ _, by simpa [tmNew] using hlv⟩, fun t ht => ?_⟩
  · simp [tmNew]; omega
  · simp at ht
    have hs : t < max args.length m := by omega
    unfold tmGet
    rw [ble_succ, decide_eq_true (show t < (tmNew args (max args.length m)).size from hs)]
    simp only [tmNew]
    rw [get_mk _ _ _ _ _ (by omega)]
    simp only [Nat.zero_add, Nat.mul_one, lget_eq]
    rw [Array.getD_eq_getD_getElem?, Array.getElem?_append]
    by_cases h1 : t < args.length
    · obtain ⟨V, hV, hr⟩ := h.get (List.getElem?_eq_getElem h1)
      rw [if_pos (by omega), List.getElem?_eq_getElem h1]
      rw [Array.getElem?_toList] at hV
      rw [hV]
      exact hr
    · rw [if_neg (by omega), List.getElem?_eq_none (by omega), Array.getElem?_replicate]
      rw [if_pos (by omega)]
      exact .undef
end Go.Ev
