/- Operations: what they make of related states (6): parts of slices. -/
import Derived.Test.YtnnebeidpkaobaaGreatDoorEvOps5
set_option linter.unusedVariables false
set_option linter.unusedSimpArgs false
set_option linter.unusedSectionVars false
namespace Go.Ev
open Go
set_option linter.unusedSectionVars false

section
variable {P : Program} {C : Ctx} {Cm : Com} {β : Bm} {s s' : St} {w : World} {tm : Tm} {a : Act} {v : EV}

theorem sliceBound_run {x : EV} {X : Value} {n k N : Nat} (hr : Rep Cm β x X) (h : boundE x n = some k) (hN : n ≤ N) (code : BoundsCode) : (Instr.sliceBound X N code).run P w = .ok k w ∧ k ≤ n := by
  obtain ⟨kk, m, rfl, h0, h1, rfl⟩ := boundE_some h
  rw [rep_int hr]
  refine ⟨?_, by omega⟩
  simp only [Instr.sliceBound, asIntOf, Sem.run_bind, Sem.run_pure, Result.andThen_ok]
  rw [if_pos (by omega)]
  rfl

inductive RepO (Cm : Com) (β : Bm) : Option EV → Option Value → Prop
  | none : RepO Cm β none none
  | some {v : EV} {V : Value} (h : Rep Cm β v V) : RepO Cm β (some v) (some V)

theorem evalOpt_rep (hC : CtxOk P C) (ht : TmOk Cm β tm a.tmps) {x : Option Operand} {r : Option EV} (h : evalOpt C tm x = some r) : RepO Cm β r (x.map a.eval) := by
  cases x with
  | none => simp [evalOpt] at h; subst h; exact .none
  | some x =>
    simp only [evalOpt, Option.map_eq_some_iff] at h
    obtain ⟨v, hv, rfl⟩ := h
    exact .some (evalO_rep hC ht hv)

/-- Bounds without a third index: over so many elements, of so much room. -/
theorem sliceBounds_run {lo hi : Option EV} {Lo Hi : Option Value} (hlo : RepO Cm β lo Lo) (hhi : RepO Cm β hi Hi) {n nn len cap h l : Nat} (isS : Bool)
    (h1 : (match (generalizing := false) hi with | some v => boundE v nn | none => some n) = some h) (h2 : (match (generalizing := false) lo with | some v => boundE v h | none => some 0) = some l) (hn : n = len) (hle : n ≤ cap) (hnn : nn ≤ cap) :
    (Instr.sliceBounds isS len cap Lo Hi none).run P w = .ok (l, h, cap) w ∧ l ≤ h ∧ (h = n ∨ h ≤ nn) := by
  subst hn
  have key : (match Hi with | some v => Instr.sliceBound v cap (if isS then .sliceAcap else .sliceAlen) | none => pure n : Sem Nat).run P w = .ok h w ∧ (h = n ∨ h ≤ nn) := by
    cases hhi with
    | none => simp only [Option.some.injEq] at h1; subst h1; exact ⟨by simp, .inl rfl⟩
    | some hr =>
      obtain ⟨k1, k2⟩ := sliceBound_run (P := P) (w := w) hr h1 hnn (if isS then .sliceAcap else .sliceAlen)
      exact ⟨by simpa using k1, .inr k2⟩
  have key2 : (match Lo with | some v => Instr.sliceBound v h .sliceB | none => pure 0 : Sem Nat).run P w = .ok l w ∧ l ≤ h := by
    cases hlo with
    | none => simp only [Option.some.injEq] at h2; subst h2; exact ⟨by simp, by omega⟩
    | some hr =>
      obtain ⟨k1, k2⟩ := sliceBound_run (P := P) (w := w) hr h2 (Nat.le_refl _) .sliceB
      exact ⟨by simpa using k1, k2⟩
  refine ⟨?_, key2.2, key.2⟩
  unfold Instr.sliceBounds
  simp only [Sem.run_bind, Sem.run_pure, Result.andThen_ok]
  obtain ⟨e1, _⟩ := key
  obtain ⟨e2, _⟩ := key2
  cases hhi with
  | none =>
    simp only [Sem.run_pure, Result.ok.injEq, and_true] at e1
    subst e1
    cases hlo with
    | none => simp only [Sem.run_pure, Result.ok.injEq, and_true] at e2; subst e2; simp
    | some hr => simp only [] at e2; simp [e2]
  | some hr =>
    simp only [] at e1
    cases hlo with
    | none => simp only [Sem.run_pure, Result.ok.injEq, and_true] at e2; subst e2; simp only [Sem.run_bind, e1, Result.andThen_ok]; simp
    | some hr => simp only [] at e2; simp only [Sem.run_bind, e1, Result.andThen_ok]; simp [e2]

theorem boundsE_some {len : Nat} {lo hi : Option EV} {l h : Nat} (hb : boundsE len lo hi = some (l, h)) : (match (generalizing := false) hi with | some v => boundE v len | none => some len) = some h ∧ (match (generalizing := false) lo with | some v => boundE v h | none => some 0) = some l := by
  unfold boundsE at hb
  split at hb
  · rename_i h' h1
    split at hb
    · rename_i l' h2
      cases hb
      exact ⟨h1, h2⟩
    · cases hb
  · cases hb

/-- Bounds with a third index. -/
theorem sliceBounds3_run {lo hi : Option EV} {Lo Hi : Option Value} {mv : EV} {Mv : Value} (hlo : RepO Cm β lo Lo) (hhi : RepO Cm β hi Hi) (hmv : Rep Cm β mv Mv) (hsome : hi.isSome = true) {n len cap c h l : Nat}
    (h0 : boundE mv n = some c) (hb : boundsE c lo hi = some (l, h)) (hle : n ≤ cap) :
    (Instr.sliceBounds true len cap Lo Hi (some Mv)).run P w = .ok (l, h, c) w ∧ l ≤ h ∧ h ≤ c ∧ c ≤ n := by
  obtain ⟨h1, h2⟩ := boundsE_some hb
  obtain ⟨m1, m2⟩ := sliceBound_run (P := P) (w := w) hmv h0 hle .slice3Acap
  cases hhi with
  | none => cases hsome
  | some hr =>
    simp only [] at h1
    obtain ⟨k1, k2⟩ := sliceBound_run (P := P) (w := w) hr h1 (Nat.le_refl _) .slice3B
    unfold Instr.sliceBounds
    simp only [Sem.run_bind, if_true, m1, Result.andThen_ok, k1]
    cases hlo with
    | none => simp only [Option.some.injEq] at h2; subst h2; exact ⟨by simp, by omega, k2, m2⟩
    | some hr2 =>
      simp only [] at h2
      obtain ⟨j1, j2⟩ := sliceBound_run (P := P) (w := w) hr2 h2 (Nat.le_refl _) .slice3C
      exact ⟨by simp [j1], j2, k2, m2⟩

theorem flatten_drop {sz : Nat} : ∀ (rows : List (List EV)) (l : Nat), (∀ r ∈ rows, r.length = sz) → (rows.drop l).flatten = rows.flatten.drop (l * sz)
  | [], l, _ => by simp
  | r :: rs, 0, _ => by simp
  | r :: rs, l + 1, h => by
    have h0 := h r (by simp)
    rw [List.drop_succ_cons, flatten_drop rs l (fun r hr => h r (by simp [hr])), List.flatten_cons, Nat.add_mul, Nat.one_mul, List.drop_append, show r.drop (l * sz + sz) = [] from List.drop_of_length_le (by omega), List.nil_append, h0]
    congr 1; omega

theorem flatten_take {sz : Nat} : ∀ (rows : List (List EV)) (l : Nat), (∀ r ∈ rows, r.length = sz) → (rows.take l).flatten = rows.flatten.take (l * sz)
  | [], l, _ => by simp
  | r :: rs, 0, _ => by simp
  | r :: rs, l + 1, h => by
    have h0 := h r (by simp)
    rw [List.take_succ_cons, List.flatten_cons, flatten_take rs l (fun r hr => h r (by simp [hr])), List.flatten_cons, Nat.add_mul, Nat.one_mul, List.take_append, show r.take (l * sz + sz) = r from List.take_of_length_le (by omega), h0]
    congr 2; omega

theorem sub_rows {m sz blk off cap l k cap' : Nat} {clip' : Bool} {rows : List (List EV)} {c : Array Value} (hc : Cm blk = some c) (hsz : ∀ r ∈ rows, r.length = sz) (hr : RepL Cm β rows.flatten ((c.toList.drop off).take (rows.length * sz)))
    (hm : refsLL rows ≤ m) (hb : m ≤ β.length) (hlk : l + k ≤ rows.length) (hcap : k ≤ cap') (hclip : clip' = true → cap' = k) :
    Rep Cm β (.sl m clip' sz ((rows.drop l).take k)) (.slice (some (if cap = l ∧ k = 0 then ⟨blk, off, none⟩ else ⟨blk, off + l * sz, none⟩)) k cap') := by
  have hlen : ((rows.drop l).take k).length = k := by simp; omega
  have hsz' : ∀ r ∈ (rows.drop l).take k, r.length = sz := fun r hr => hsz r (List.mem_of_mem_drop (List.mem_of_mem_take hr))
  have hfl : ((rows.drop l).take k).flatten = (rows.flatten.drop (l * sz)).take (k * sz) := by
    rw [flatten_take _ _ (fun r hr => hsz r (List.mem_of_mem_drop hr)), flatten_drop _ _ hsz]
  have hrep : RepL Cm β ((rows.drop l).take k).flatten ((c.toList.drop (off + l * sz)).take (k * sz)) := by
    rw [hfl]
    have := (hr.drop (l * sz)).take (k * sz)
    rw [List.drop_take, List.take_take, List.drop_drop] at this
    have hmul : l * sz + k * sz ≤ rows.length * sz := by rw [← Nat.add_mul]; exact Nat.mul_le_mul_right _ hlk
    rwa [show min (k * sz) (rows.length * sz - l * sz) = k * sz by omega] at this
  have hrefs : refsLL ((rows.drop l).take k) ≤ m := by
    rw [← refsL_flatten, hfl]
    refine Nat.le_trans (refsL_take_le _ _) (Nat.le_trans (refsL_drop_le _ _) ?_)
    rw [refsL_flatten]; exact hm
  split
  · rename_i h0
    obtain ⟨_, rfl⟩ := h0
    have := Rep.sl (Cm := Cm) (β := β) (m := m) (clip := clip') (sz := sz) (rows := (rows.drop l).take 0) (blk := blk) (off := off) (cap := cap') hc (by simp) (by rw [hlen]; exact hclip) hsz' (by simpa using RepL.nil) hrefs hb
    rwa [hlen] at this
  · have := Rep.sl (Cm := Cm) (β := β) (m := m) (clip := clip') (sz := sz) (rows := (rows.drop l).take k) (blk := blk) (off := off + l * sz) (cap := cap') hc (by rw [hlen]; exact hcap) (by rw [hlen]; exact hclip) hsz' (by rw [hlen]; exact hrep) hrefs hb
    rwa [hlen] at this

theorem sliceS_sound (hC : CtxOk P C) (h : SInv Cm β s w) {t e : TypeId} {i j : TI} (hi : C.ti t = some i) (hD : i.desc = .slice e) (hj : C.ti e = some j) {x : EV} {X : Value} {lo hi' mx : Option EV} {Lo Hi Mx : Option Value}
    (hx : Rep Cm β x X) (hlo : RepO Cm β lo Lo) (hhi : RepO Cm β hi' Hi) (hmx : RepO Cm β mx Mx) (hsz : x.szIs j.size = true) (hop : sliceS x lo hi' mx s = some v) : ∃ V, (Instr.sliceAt t X Lo Hi Mx).run P w = .ok V w ∧ Rep Cm β v V := by
  have hrun : ∀ (base : Option Addr) (len cap l hh m : Nat), (Instr.sliceBounds true len cap Lo Hi Mx).run P w = .ok (l, hh, m) w →
      (Instr.sliceAt t (.slice base len cap) Lo Hi Mx).run P w = .ok (.slice (if m = l then base else base.map (·.add (l * j.size))) (hh - l) (m - l)) w := by
    intro base len cap l hh m hb
    simp [Instr.sliceAt, run_under hC hi, hD, Instr.slice, hb, run_size hC hj]
  unfold sliceS at hop
  split at hop
  · -- nil
    simp only [Option.map_eq_some_iff] at hop
    obtain ⟨⟨l, hh⟩, hb, rfl⟩ := hop
    cases hx; cases hmx
    obtain ⟨b1, b2⟩ := boundsE_some hb
    obtain ⟨g1, g2, g3⟩ := sliceBounds_run (P := P) (w := w) hlo hhi (n := 0) (nn := 0) (len := 0) (cap := 0) true b1 b2 rfl (Nat.le_refl _) (Nat.le_refl _)
    have h0 : hh = 0 := by omega
    subst h0
    have l0 : l = 0 := by omega
    subst l0
    exact ⟨_, hrun none 0 0 0 0 0 g1, by simpa using Rep.nilsl⟩
  · rename_i mv
    split at hop
    · rename_i c hv hc
      simp only [Option.map_eq_some_iff] at hop
      obtain ⟨⟨l, hh⟩, hb, rfl⟩ := hop
      cases hx
      cases hmx with
      | some hmv =>
        obtain ⟨kk, m, rfl, hm0, hm1, rfl⟩ := boundE_some hc
        obtain rfl : m = 0 := by omega
        obtain ⟨g1, g2, g3, g4⟩ := sliceBounds3_run (P := P) (w := w) (len := 0) (cap := 0) hlo hhi hmv rfl hc hb (Nat.le_refl _)
        simp only [Int.toNat_zero] at g1 g3
        obtain rfl : hh = 0 := by omega
        obtain rfl : l = 0 := by omega
        exact ⟨_, hrun none 0 0 0 0 _ g1, by simpa using Rep.nilsl⟩
    · cases hop
  · -- rows
    rename_i m r z rows
    simp only [Option.map_eq_some_iff] at hop
    obtain ⟨⟨l, hh⟩, hb, rfl⟩ := hop
    cases hmx
    have hz : z = j.size := by simpa [EV.szIs] using hsz
    subst hz
    obtain ⟨b1, b2⟩ := boundsE_some hb
    cases hx with
    | sl hc hcap hclip hrows hrep hm hbb =>
      rename_i blk off cap c
      obtain ⟨g1, g2, g3⟩ := sliceBounds_run (P := P) (w := w) hlo hhi (n := rows.length) (nn := rows.length) (len := rows.length) (cap := cap) true b1 b2 rfl hcap hcap
      refine ⟨_, hrun _ _ _ _ _ _ g1, ?_⟩
      have := sub_rows (cap := cap) (cap' := cap - l) (l := l) (k := hh - l) (clip' := r && hh == rows.length) hc hrows hrep hm hbb (by omega) (by omega) (by
        intro he
        simp only [Bool.and_eq_true, beq_iff_eq] at he
        have := hclip he.1
        omega)
      by_cases h0 : cap = l
      · rw [if_pos h0]
        rw [if_pos ⟨h0, by omega⟩] at this
        exact this
      · rw [if_neg h0]
        rw [if_neg (by omega)] at this
        simpa [Addr.add_none] using this
  · rename_i m r z rows mv
    split at hop
    · rename_i c hv hc
      simp only [Option.map_eq_some_iff] at hop
      obtain ⟨⟨l, hh⟩, hb, rfl⟩ := hop
      have hz : z = j.size := by simpa [EV.szIs] using hsz
      subst hz
      cases hmx with
      | some hmv =>
        cases hx with
        | sl hcc hcap hclip hrows hrep hm hbb =>
          rename_i blk off cap cm
          obtain ⟨g1, g2, g3, g4⟩ := sliceBounds3_run (P := P) (w := w) (len := rows.length) (cap := cap) hlo hhi hmv rfl hc hb hcap
          refine ⟨_, hrun _ _ _ _ _ _ g1, ?_⟩
          have := sub_rows (cap := c) (cap' := c - l) (l := l) (k := hh - l) (clip' := hh == c) hcc hrows hrep hm hbb (by omega) (by omega) (by
            intro he
            simp only [beq_iff_eq] at he
            omega)
          by_cases h0 : c = l
          · rw [if_pos h0]
            rw [if_pos ⟨h0, by omega⟩] at this
            exact this
          · rw [if_neg h0]
            rw [if_neg (by omega)] at this
            simpa [Addr.add_none] using this
    · cases hop
  · -- a reference
    rename_i b g off n sz
    have hz : sz = j.size := by simpa [EV.szIs] using hsz
    subst hz
    cases hmx
    split at hop
    · rename_i k hk
      obtain ⟨hk, hg⟩ := blk_some hk
      split at hop
      · rename_i harr
        simp only [Bool.and_eq_true, decide_eq_true_eq] at harr
        cases hx with
        | sref he hge hcap hv =>
          rename_i en A cap
          have hok := h.blk b en k he hk
          obtain ⟨rfl, hb⟩ := hv (by rw [hok.gen, hg])
          obtain ⟨hb1, hb2⟩ := hb (by rw [hok.arr]; exact harr.1)
          split at hop
          · rename_i hh h1
            split at hop
            · rename_i l h2
              have hnn : (k.cells.length - off) / j.size ≤ cap := by
                have hlen := hok.len
                have : k.cells.length - off ≤ cap * j.size := by omega
                exact Nat.div_le_of_le_mul (by rw [Nat.mul_comm]; exact this)
              obtain ⟨g1, g2, g3⟩ := sliceBounds_run (P := P) (w := w) hlo hhi (n := n) (nn := (k.cells.length - off) / j.size) (len := n) (cap := cap) true h1 h2 rfl hcap hnn
              refine ⟨_, hrun _ _ _ _ _ _ g1, ?_⟩
              have hhc : hh ≤ cap := by omega
              unfold refAt at hop
              split at hop
              · rename_i hl
                cases hop
                have hmul : cap * j.size = l * j.size + (cap - l) * j.size := by rw [← Nat.add_mul]; congr 1; omega
                by_cases h0 : cap = l
                · have hl0 : l = 0 := by
                    rcases hl with hl | hl
                    · exact hl
                    · have hlen := hok.len; rw [h0] at hb1; omega
                  rw [if_pos h0]
                  subst hl0
                  exact .sref he hge (by omega) (fun e => ⟨by simp, fun ha => ⟨by simpa using hb1, by simpa using hb2⟩⟩)
                · rw [if_neg h0]
                  simp only [Option.map_some, Addr.add_none]
                  exact .sref he hge (by omega) (fun e => ⟨by rw [Nat.add_assoc], fun ha => ⟨by omega, by omega⟩⟩)
              · split at hop
                · rename_i hl hhl
                  cases hop
                  subst hhl
                  simp only [Nat.sub_self]
                  split
                  · exact .esl _ _
                  · exact .esl _ _
                · cases hop
            · cases hop
          · cases hop
      · cases hop
    · cases hop
  · rename_i b g off n sz mv
    have hz : sz = j.size := by simpa [EV.szIs] using hsz
    subst hz
    split at hop
    · rename_i k hv0 hk
      obtain ⟨hk, hg⟩ := blk_some hk
      split at hop
      · rename_i harr
        simp only [Bool.and_eq_true, decide_eq_true_eq] at harr
        cases hx with
        | sref he hge hcap hv =>
          rename_i en A cap
          have hok := h.blk b en k he hk
          obtain ⟨rfl, hb⟩ := hv (by rw [hok.gen, hg])
          obtain ⟨hb1, hb2⟩ := hb (by rw [hok.arr]; exact harr.1)
          split at hop
          · rename_i c hc
            split at hop
            · rename_i hcl
              obtain ⟨⟨l, hh⟩, hbe, hop⟩ := bind_some hop
              have hnn : (k.cells.length - off) / j.size ≤ cap := by
                have hlen := hok.len
                have : k.cells.length - off ≤ cap * j.size := by omega
                exact Nat.div_le_of_le_mul (by rw [Nat.mul_comm]; exact this)
              cases hmx with
              | some hmv =>
                obtain ⟨g1, g2, g3, g4⟩ := sliceBounds3_run (P := P) (w := w) (len := n) (cap := cap) hlo hhi hmv rfl hc hbe hnn
                refine ⟨_, hrun _ _ _ _ _ _ g1, ?_⟩
                unfold refAt at hop
                simp only at hop
                have hlen := hok.len
                have hmc : c * j.size ≤ cap * j.size := Nat.mul_le_mul_right _ (by omega)
                split at hop
                · rename_i hl
                  cases hop
                  have hmul : c * j.size = l * j.size + (c - l) * j.size := by rw [← Nat.add_mul]; congr 1; omega
                  by_cases h0 : c = l
                  · have hl0 : l = 0 := by
                      rcases hl with hl | hl
                      · exact hl
                      · rw [h0] at hcl; omega
                    rw [if_pos h0]
                    subst hl0
                    exact .sref he hge (by omega) (fun e => ⟨by simp, fun ha => ⟨by simp; omega, by simp; omega⟩⟩)
                  · rw [if_neg h0]
                    simp only [Option.map_some, Addr.add_none]
                    exact .sref he hge (by omega) (fun e => ⟨by rw [Nat.add_assoc], fun ha => ⟨by omega, by omega⟩⟩)
                · split at hop
                  · rename_i hl hhl
                    cases hop
                    subst hhl
                    simp only [Nat.sub_self]
                    split
                    · exact .esl _ _
                    · exact .esl _ _
                  · cases hop
            · cases hop
          · cases hop
      · cases hop
    · cases hop
  · cases hop

theorem slice_sound (hC : CtxOk P C) (h : SInv Cm β s w) (ht : TmOk Cm β tm a.tmps) {o : Oper} {t : TypeId} {x : Operand} {lo hi mx : Option Operand} (ho : o.op = .slice t x lo hi mx) (hop : sliceO C tm s t x lo hi mx = some (v, s')) : OpVal P o a w (Post Cm β s w v s') := by
  unfold sliceO at hop
  split at hop
  · rename_i p l1 h1 m1 hp hl1 hh1 hm1
    obtain ⟨hx, rfl⟩ := just_some hop
    have rp := evalO_rep hC ht hp
    have rl := evalOpt_rep hC ht hl1
    have rh := evalOpt_rep hC ht hh1
    have rm := evalOpt_rep hC ht hm1
    generalize hX : a.eval x = X at rp
    suffices hS : ∃ V, (Instr.sliceAt t X (lo.map a.eval) (hi.map a.eval) (mx.map a.eval)).run P w = .ok V w ∧ Rep Cm β v V by
      obtain ⟨V, g1, g2⟩ := hS
      exact OpVal.mk (x := Instr.sliceAt t (a.eval x) (lo.map a.eval) (hi.map a.eval) (mx.map a.eval)) (by rw [execOp, ho]) (by rw [hX]; exact g1) (post_pure h g2)
    generalize lo.map a.eval = Lo at rl
    generalize hi.map a.eval = Hi at rh
    generalize mx.map a.eval = Mx at rm
    unfold sliceE at hx
    split at hx
    · rename_i i hi
      split at hx
      · rename_i str hD
        simp only [Option.map_eq_some_iff] at hx
        obtain ⟨⟨l, hh⟩, hb, rfl⟩ := hx
        cases rp; cases rm
        obtain ⟨b1, b2⟩ := boundsE_some hb
        obtain ⟨g1, g2, g3⟩ := sliceBounds_run (P := P) (w := w) rl rh (n := str.size) (nn := str.size) (len := str.size) (cap := str.size) false b1 b2 rfl (Nat.le_refl _) (Nat.le_refl _)
        exact ⟨.string (str.extract l hh), by simp [Instr.sliceAt, run_under hC hi, hD, Instr.slice, g1], .str _⟩
      · rename_i e hD
        split at hx
        · rename_i j hj
          split at hx
          · rename_i hsz
            exact sliceS_sound hC h hi hD hj rp rl rh rm hsz hx
          · cases hx
        · cases hx
      · rename_i n e b g off hD
        split at hx
        · rename_i j k hj hk
          obtain ⟨hk, hg⟩ := blk_some hk
          split at hx
          · cases hx
          · rename_i harr
            obtain ⟨⟨l, hh⟩, hb, hx⟩ := bind_some hx
            simp only at hx
            cases rm
            obtain ⟨b1, b2⟩ := boundsE_some hb
            cases rp with
            | ptr he hge hv =>
              rename_i en A
              have hok := h.blk b en k he hk
              obtain rfl := hv (by rw [hok.gen, hg])
              obtain ⟨g1, g2, g3⟩ := sliceBounds_run (P := P) (w := w) rl rh (n := n) (nn := n) (len := n) (cap := n) false b1 b2 rfl (Nat.le_refl _) (Nat.le_refl _)
              have hra : en.arr = false := by rw [hok.arr]; simpa using harr
              refine ⟨.slice (some (if n = l then ⟨en.blk, en.off + off, none⟩ else (Addr.add ⟨en.blk, en.off + off, none⟩ (l * j.size)))) (hh - l) (n - l), ?_, ?_⟩
              · simp [Instr.sliceAt, run_under hC hi, hD, Instr.sureAddr, g1, run_size hC hj]
              · split at hx
                · rename_i hl
                  cases hx
                  by_cases h0 : n = l
                  · obtain rfl : l = 0 := by omega
                    rw [if_pos h0]
                    exact .sref he hge (by omega) (fun e => ⟨by simp, fun ha => by rw [hra] at ha; cases ha⟩)
                  · rw [if_neg h0, Addr.add_none]
                    exact .sref he hge (by omega) (fun e => ⟨by rw [Nat.add_assoc], fun ha => by rw [hra] at ha; cases ha⟩)
                · split at hx
                  · rename_i hl hhl
                    cases hx
                    subst hhl
                    simp only [Nat.sub_self]
                    exact .esl _ _
                  · cases hx
        · cases hx
      · cases hx
    · cases hx
  · cases hop
end
end Go.Ev
