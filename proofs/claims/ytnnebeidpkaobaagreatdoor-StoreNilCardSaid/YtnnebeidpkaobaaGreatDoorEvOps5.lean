/- Operations: what they make of related states (5): makes, conversions, parts of slices. -/
import Derived.Test.YtnnebeidpkaobaaGreatDoorEvOps4
import Derived.Laws.BytesString
set_option linter.unusedVariables false
set_option linter.unusedSimpArgs false
set_option linter.unusedSectionVars false
namespace Go.Ev
open Go
set_option linter.unusedSectionVars false

section
variable {P : Program} {C : Ctx} {Cm : Com} {β : Bm} {s s' : St} {w : World} {tm : Tm} {a : Act} {v : EV}

theorem wrap64_in {n : Int} (h0 : 0 ≤ n) (h : n ≤ 9223372036854775807) : IntKind.i64.wrap n = n := by
  simp [IntKind.wrap, IntKind.bits, IntKind.signed]; omega

theorem roomOk_some {n b : Nat} (h : roomOk n b = true) : n * b ≤ 2 ^ 44 ∧ n ≤ 2 ^ 44 ∧ b ≤ 2 ^ 20 := by
  simp only [roomOk, Bool.and_eq_true, decide_eq_true_eq] at h
  exact ⟨h.1.1, h.1.2, h.2⟩

theorem makeSlice_sound (hC : CtxOk P C) (h : SInv Cm β s w) (ht : TmOk Cm β tm a.tmps) {o : Oper} {t : TypeId} {x y : Operand} (ho : o.op = .makeSlice t x y) (hop : makeSliceO C tm s t x y = some (v, s')) : OpVal P o a w (Post Cm β s w v s') := by
  unfold makeSliceO at hop
  split at hop
  · rename_i p q hp hq
    have rp := evalO_rep hC ht hp
    have rq := evalO_rep hC ht hq
    unfold makeSliceE at hop
    split at hop
    · rename_i e j l c he
      obtain ⟨i, hi, hD, hj⟩ := elemTI_some he
      split at hop
      · rename_i z hz
        split at hop
        · rename_i hcond
          obtain ⟨hl0, hlc, hroom, hzl⟩ := hcond
          obtain ⟨hr1, hr2, hr3⟩ := roomOk_some hroom
          cases hop
          have e1 := rep_int rp
          have e2 := rep_int rq
          obtain ⟨zv, hzv, hzr⟩ := zero_row (Cm := Cm) (β := β) hz hzl c.toNat
          obtain ⟨zero, hzero⟩ : ∃ zero : Array Value, zero = if c.toNat * j.size = 0 then #[] else zv.cells := ⟨_, rfl⟩
          have hrB := hzr zero hzero
          have hBl := hrB.length
          have hfl : (List.replicate c.toNat z.cells).flatten.length = c.toNat * j.size := by simp [hzl]
          obtain ⟨xi, hxi, hx1, hx2, hx3⟩ := run_info (P := P) (w := w) hC hj
          have hw1 : IntKind.i64.wrap l = l := wrap64_in hl0 (by omega)
          have hw2 : IntKind.i64.wrap c = c := wrap64_in (by omega) (by omega)
          have hbig : ¬ ((xi.bytes : Int) * c > 2 ^ 48) := by
            have : (xi.bytes : Int) * c = ((c.toNat * j.bytes : Nat) : Int) := by
              rw [Int.natCast_mul, Int.toNat_of_nonneg (by omega), hx2, Int.mul_comm]
            rw [this]; omega
          refine OpVal.mk (x := Instr.makeSlice t (a.eval x) (a.eval y)) (by rw [execOp, ho]) (V := .slice (some ⟨w.heap.size, 0, none⟩) l.toNat c.toNat)
            (w' := { w with heap := w.heap.push (.cells ((Array.range (c.toNat * j.size)).map fun i => zero[i % zero.size]!) e (0, 0)) }) ?_
            (post_arr h (by rw [hBl, Array.length_toList, ← Array.length_toList, List.take_length]; exact hrB) rfl rfl rfl rfl (by omega) (by omega) (by simp))
          have c1 : ¬ (c < 0) := by omega
          have c2 : ¬ (l < 0) := by omega
          have c3 : ¬ (l > c) := by omega
          unfold Instr.makeSlice
          simp only [Sem.run_bind, run_under hC hi, hD, Result.andThen_ok, e1, e2, asInt, asIntOf, Sem.run_pure, hxi, hw1, hw2, c1, c2, c3, decide_false, Bool.false_or, Bool.or_false, hbig]
          simp only [Bool.false_eq_true, if_false, Sem.run_bind, run_askRoom, run_size hC hj, Result.andThen_ok]
          by_cases h0 : c.toNat * j.size = 0
          · rw [if_pos h0] at hzero; subst hzero
            simp [h0, newRow]
          · rw [if_neg h0] at hzero; subst hzero
            simp [h0, newRow, run_zero hC hj hzv]
        · cases hop
      · cases hop
    · cases hop
  · cases hop

theorem bytesOf_rows : ∀ {rows : List (List EV)} {l : List UInt8}, bytesOf rows = some l → ∃ ns : List Int, rows = ns.map (fun n => [EV.int .u8 n]) ∧ l = ns.map fun n => UInt8.ofNat n.toNat
  | [], l, h => by simp [bytesOf] at h; subst h; exact ⟨[], rfl, rfl⟩
  | r :: rs, l, h => by
    unfold bytesOf at h
    split at h
    · cases ‹_ :: _ = []›
    · rename_i n rest heq
      cases heq
      simp only [Option.map_eq_some_iff] at h
      obtain ⟨l', hl', rfl⟩ := h
      obtain ⟨ns, h1, h2⟩ := bytesOf_rows hl'
      exact ⟨n :: ns, by simp [h1], by simp [h2]⟩
    · cases h

theorem RepL.ints {ns : List Int} : ∀ {L : List Value}, RepL Cm β (ns.map fun n => EV.int .u8 n) L → L = ns.map (Value.int .u8) := by
  induction ns with
  | nil => intro L h; cases h; rfl
  | cons n ns ih => intro L h; cases h with | cons h1 h2 => rw [rep_int h1, ih h2]; rfl

/-- A slice's rows lie in memory. -/
theorem rows_mem (h : SInv Cm β s w) {x : EV} {X : Value} (hr : Rep Cm β x X) {rows : List (List EV)} (hrows : rowsOf s x = some rows) {z : Nat} (hz : x.szIs z = true) :
    (∀ r ∈ rows, r.length = z) ∧ ((rows = [] ∧ ∃ c, X = .slice none 0 c ∨ ∃ A, X = .slice (some A) 0 c) ∨ ∃ blk off cap c elem fr, X = .slice (some ⟨blk, off, none⟩) rows.length cap ∧ w.heap[blk]? = some (.cells c elem fr) ∧ rows.length ≤ cap ∧
      RepL Cm β rows.flatten ((c.toList.drop off).take (rows.length * z))) := by
  cases x with
  | nilsl =>
    simp [rowsOf] at hrows; subst hrows
    cases hr
    exact ⟨by simp, .inl ⟨rfl, 0, .inl rfl⟩⟩
  | esl =>
    simp [rowsOf] at hrows; subst hrows
    cases hr
    exact ⟨by simp, .inl ⟨rfl, _, .inr ⟨_, rfl⟩⟩⟩
  | sl m clip sz rs =>
    simp [rowsOf] at hrows; subst hrows
    simp [EV.szIs] at hz; subst hz
    cases hr with
    | sl hc hcap hclip hsz hL hm hb =>
      rename_i blk off cap c
      obtain ⟨elem, fr, hmem⟩ := h.com _ _ hc
      exact ⟨hsz, .inr ⟨blk, off, cap, c, elem, fr, rfl, hmem, hcap, hL⟩⟩
  | sref b g off n sz =>
    simp [EV.szIs] at hz; subst hz
    simp only [rowsOf] at hrows
    split at hrows
    · rename_i k hk
      obtain ⟨hk, hg⟩ := blk_some hk
      split at hrows
      · rename_i hle
        cases hrows
        cases hr with
        | sref he hge hcap hv =>
          rename_i e A c
          have hok := h.blk b e k he hk
          obtain ⟨rfl, _⟩ := hv (by rw [hok.gen, hg])
          obtain ⟨cc, elem, fr, hm, hfin, hrep, _⟩ := hok.mem
          have hlen := hok.len
          have e1 : n * sz ≤ (k.cells.drop off).length := by simp; omega
          refine ⟨chunk_rows sz n _ e1, .inr ⟨e.blk, e.off + off, c, cc, elem, fr, by rw [chunk_length], hm, by rw [chunk_length]; exact hcap, ?_⟩⟩
          rw [chunk_flatten sz n _ e1, chunk_length]
          have := (hrep.drop off).take (n * sz)
          rw [List.drop_take, List.take_take, List.drop_drop, show min (n * sz) (e.len - off) = n * sz by omega] at this
          exact this
      · cases hrows
    · cases hrows
  | _ => simp [rowsOf] at hrows

theorem run_loadCells_rep {blk off n : Nat} {c : Array Value} {elem : TypeId} {fr : Nat × Nat} (hm : w.heap[blk]? = some (.cells c elem fr)) {cs : List EV} (hr : RepL Cm β cs ((c.toList.drop off).take n)) (hn : cs.length = n) :
    (loadCells ⟨blk, off, none⟩ n).run P w = .ok (c.extract off (off + n)) w ∧ (c.extract off (off + n)).toList = (c.toList.drop off).take n := by
  have hl := hr.length
  constructor
  · by_cases h0 : n = 0
    · subst h0; simp [loadCells, loadCellsFrom]; exact Nat.min_le_left _ _
    · exact run_loadCells hm (by simp at hl; omega)
  · rw [Array.toList_extract, List.extract_eq_take_drop]; simp

theorem foldl_push (ns : List Int) : ns.foldl (fun (r : ByteArray) n => r.push (UInt8.ofNat n.toNat)) ByteArray.empty = ⟨(ns.map fun n => UInt8.ofNat n.toNat).toArray⟩ := by
  have key : ∀ (ns : List Int) (r : ByteArray), (ns.foldl (fun (r : ByteArray) n => r.push (UInt8.ofNat n.toNat)) r).data = r.data ++ (ns.map fun n => UInt8.ofNat n.toNat).toArray := by
    intro ns
    induction ns with
    | nil => intro r; simp
    | cons n ns ih =>
      intro r
      rw [List.foldl_cons, ih]
      apply Array.ext'
      simp [ByteArray.push]
  refine ByteArray.ext ?_
  rw [key]
  show #[] ++ _ = _
  simp

theorem flatten_singles {α γ : Type} (f : α → γ) (ns : List α) : (ns.map fun n => [f n]).flatten = ns.map f := by
  induction ns with
  | nil => rfl
  | cons n ns ih => simp only [List.map_cons, List.flatten_cons, ih]; rfl

theorem conv_sound (hC : CtxOk P C) (h : SInv Cm β s w) (ht : TmOk Cm β tm a.tmps) {o : Oper} {src dst : TypeId} {x : Operand} {mt : Bool} (ho : o.op = .convert src dst x) (hop : ((evalO C tm x).bind fun x => convE C mt src dst x s) = some (v, s')) : OpVal P o a w (Post Cm β s w v s') := by
  obtain ⟨p, hp, hx⟩ := bind_some hop
  have rp := evalO_rep hC ht hp
  generalize hX : a.eval x = X at rp
  suffices hS : ∃ V w', (convert src dst X).run P w = .ok V w' ∧ Post Cm β s w v s' V w' by
    obtain ⟨V, w', h1, h2⟩ := hS
    exact OpVal.mk (x := convert src dst (a.eval x)) (by rw [execOp, ho]) (by rw [hX]; exact h1) h2
  unfold convE at hx
  split at hx
  · rename_i i d hi hd
    have u1 := fun w' => run_under (P := P) (w := w') hC hi
    have u2 := fun w' => run_under (P := P) (w := w') hC hd
    split at hx
    · rename_i k kk n hD
      cases hx; cases rp
      refine ⟨_, w, ?_, post_pure h (.int _ _)⟩
      unfold convert
      simp only [Sem.run_bind, u1, u2, hD, Result.andThen_ok]
      cases i.desc <;> simp [Conv.intToInt]
    · rename_i str hD
      cases hx; cases rp
      refine ⟨_, w, ?_, post_pure h (.str _)⟩
      unfold convert
      simp only [Sem.run_bind, u1, u2, hD, Result.andThen_ok]
      cases i.desc <;> simp
    · rename_i e str hD
      split at hx
      · rename_i ei hei
        split at hx
        · rename_i hu8
          by_cases hsz : str.size ≤ 2 ^ 44
          · rw [if_pos hsz] at hx
            by_cases hone : (mt || ei.size != 1) = true
            · rw [if_pos hone] at hx; cases hx
            · rw [if_neg hone] at hx
              cases hx; cases rp
              have hE : ei.desc = .int .u8 := by
                revert hu8; cases ei.desc with
                | int k => cases k <;> simp
                | _ => simp
              have hsz1 : ei.size = 1 := by
                simp only [Bool.or_eq_true, not_or] at hone
                have := hone.2; simpa using this
              have hch : ∃ cp, str.size ≤ cp ∧ (choose (.appendCap str.size 0 e)).run P w = .ok cp { w with drawn := w.drawn + 1 } := by
                refine ⟨str.size + (w.tape w.drawn (.appendCap str.size 0 e)) % (2 ^ 63 - str.size), by omega, ?_⟩
                simp [Question.forced, Question.cut]
              obtain ⟨cp, hcp, hch⟩ := hch
              let c : Array Value := (str.data.map fun b => Value.int .u8 b.toNat) ++ Array.replicate (cp - str.size) (Value.int .u8 0)
              have hss : str.data.size = str.size := rfl
              have hcs : c.size = cp := by simp only [c, Array.size_append, Array.size_map, Array.size_replicate]; omega
              have hlr : (bytesRows str).length = str.size := by simp [bytesRows, hss]
              refine ⟨.slice (some ⟨w.heap.size, 0, none⟩) str.size cp, { w with drawn := w.drawn + 1, heap := w.heap.push (.cells c e (c.size, c.size + 1)) }, ?_, ?_⟩
              · unfold convert
                simp only [Sem.run_bind, u1, u2, hD, Result.andThen_ok]
                have : (Conv.stringToBytes e str).run P w = .ok (.slice (some ⟨w.heap.size, 0, none⟩) str.size cp) { w with drawn := w.drawn + 1, heap := w.heap.push (.cells c e (c.size, c.size + 1)) } := by
                  unfold Conv.stringToBytes
                  simp only [Sem.run_bind, hch, Result.andThen_ok, newRow, run_newObj, Sem.run_pure, markStringish, run_shape]
                  have hs2 : World.shape? { w with drawn := w.drawn + 1, heap := w.heap.push (.cells c e (0, 0)) } w.heap.size = some (e, c.size) := by simp [World.shape?]
                  show ((match World.shape? { w with drawn := w.drawn + 1, heap := w.heap.push (.cells c e (0, 0)) } w.heap.size with | some (_, n) => freeze { block := w.heap.size, off := n } 1 | x => Pure.pure ()).run P _ |>.andThen _) = _
                  rw [hs2]
                  simp only [run_freeze, Result.andThen_ok, World.freeze]
                  rw [if_neg (by omega)]
                  congr 1
                  congr 1
                  refine Array.ext (by simp) fun i h1 h2 => ?_
                  simp only [Array.size_modify, Array.size_push] at h1
                  rw [Array.getElem_modify]
                  by_cases hi' : w.heap.size = i
                  · subst hi'; simp; rfl
                  · rw [if_neg hi', Array.getElem_push, Array.getElem_push]
                    simp [show i < w.heap.size by omega]
                cases hID : i.desc <;> simp [run_under hC hei, hE, this]
              · have hrep : RepL Cm β (bytesRows str).flatten (c.toList.take ((bytesRows str).length * 1)) := by
                  rw [hlr, Nat.mul_one]
                  have e1 : c.toList.take str.size = str.data.toList.map fun b => Value.int .u8 b.toNat := by
                    simp only [c, Array.toList_append, Array.toList_map]
                    rw [List.take_append, List.take_of_length_le (by simp [hss])]
                    simp [hss]
                  rw [e1]
                  unfold bytesRows
                  generalize str.data.toList = L
                  induction L with
                  | nil => exact .nil
                  | cons b bs ih => exact .cons (.int _ _) ih
                have := post_rows h (cap := cp) (clip := false) (elem := e) (fr := (c.size, c.size + 1)) (sz := 1) (w' := { w with drawn := w.drawn + 1, heap := w.heap.push (.cells c e (c.size, c.size + 1)) }) (rows := bytesRows str) (c := c)
                  (by intro r hr; simp [bytesRows] at hr; obtain ⟨b, _, rfl⟩ := hr; rfl) hrep rfl rfl rfl rfl (by omega) (by simp)
                rw [hlr] at this
                have hz : refsLL (bytesRows str) = 0 := by
                  unfold bytesRows
                  generalize str.data.toList = L
                  induction L with
                  | nil => rfl
                  | cons b bs ih => simp [refsLL, refsL, EV.refs] at ih ⊢; exact ih
                rw [hz] at this
                exact this
          · rw [if_neg hsz] at hx; cases hx
        · cases hx
      · cases hx
    · rename_i hn1 hn2 hD hn3
      split at hx
      · rename_i e hID
        split at hx
        · rename_i ei hei
          split at hx
          · rename_i hu8
            have hE : ei.desc = .int .u8 := by
              revert hu8; cases ei.desc with
              | int k => cases k <;> simp
              | _ => simp
            obtain ⟨rows, hrows, hx⟩ := bind_some hx
            simp only [Option.map_eq_some_iff] at hx
            obtain ⟨l, hl, hx⟩ := hx
            cases hx
            obtain ⟨ns, rfl, rfl⟩ := bytesOf_rows hl
            split at hrows
            · rename_i hsz
              obtain ⟨_, hmem⟩ := rows_mem h rp hrows hsz
              refine ⟨.string ⟨(ns.map fun n => UInt8.ofNat n.toNat).toArray⟩, w, ?_, post_pure h (.str _)⟩
              rcases hmem with ⟨hnil, c, rfl | ⟨A, rfl⟩⟩ | ⟨blk, off, cap, c, elem, fr, rfl, hm, hcap, hrep⟩
              · have : ns = [] := by simpa using hnil
                subst this
                unfold convert
                simp only [Sem.run_bind, u1, u2, hD, hID, Result.andThen_ok, run_under hC hei, hE]
                simp [Conv.bytesToString]; rfl
              · have : ns = [] := by simpa using hnil
                subst this
                unfold convert
                simp only [Sem.run_bind, u1, u2, hD, hID, Result.andThen_ok, run_under hC hei, hE]
                simp [Conv.bytesToString, loadCells, loadCellsFrom]; rfl
              · have hfl : (ns.map fun n => [EV.int .u8 n]).flatten = ns.map fun n => EV.int .u8 n := flatten_singles _ _
                rw [hfl, List.length_map, Nat.mul_one] at hrep
                obtain ⟨g1, g2⟩ := run_loadCells_rep (P := P) hm hrep (by simp)
                have g3 := hrep.ints
                have g4 : c.extract off (off + ns.length) = (ns.map (Value.int .u8)).toArray := by
                  apply Array.ext'
                  rw [g2, g3]
                rw [g4] at g1
                unfold convert
                simp only [Sem.run_bind, u1, u2, hD, hID, Result.andThen_ok, run_under hC hei, hE]
                simp only [List.length_map]
                rw [run_bytesToString w _ _ _ ns g1, foldl_push]
            · cases hrows
          · cases hx
        · cases hx
      · cases hx
    · cases hx
  · cases hx
end
end Go.Ev
