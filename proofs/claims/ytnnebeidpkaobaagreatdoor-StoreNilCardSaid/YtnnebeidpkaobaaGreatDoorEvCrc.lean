/- Checksums over numbers, and the arithmetic that they take. -/
import Derived.Test.YtnnebeidpkaobaaGreatDoorEvLoop
import Derived.Test.YtnnebeidpkaobaaGreatDoorEvIns
set_option linter.unusedVariables false
set_option linter.unusedSimpArgs false
set_option linter.unusedSectionVars false
namespace Go.Ev
open Go
set_option linter.unusedSectionVars false
set_option linter.unusedVariables false

theorem wrap_u32 (n : Int) : IntKind.u32.wrap n = n % 4294967296 := by simp [IntKind.wrap, IntKind.bits, IntKind.signed]
theorem wrap_u8 (n : Int) : IntKind.u8.wrap n = n % 256 := by simp [IntKind.wrap, IntKind.bits, IntKind.signed]

theorem toNat32 {n : Nat} (h : n < 4294967296) : (BitVec.ofInt 32 (n : Int)).toNat = n := by
  rw [BitVec.ofInt_natCast, BitVec.toNat_ofNat]; exact Nat.mod_eq_of_lt h
theorem toNat8 {n : Nat} (h : n < 256) : (BitVec.ofInt 8 (n : Int)).toNat = n := by
  rw [BitVec.ofInt_natCast, BitVec.toNat_ofNat]; exact Nat.mod_eq_of_lt h

theorem xor32 {a b : Nat} (ha : a < 4294967296) (hb : b < 4294967296) : arithE .xor .u32 (a : Int) (b : Int) = some (.int .u32 ((a ^^^ b : Nat) : Int)) := by
  show some (EV.int .u32 (IntKind.u32.wrap ((BitVec.ofInt 32 (a : Int) ^^^ BitVec.ofInt 32 (b : Int)).toNat : Int))) = _
  rw [BitVec.toNat_xor, toNat32 ha, toNat32 hb, wrap_u32]
  have : a ^^^ b < 2 ^ 32 := Nat.xor_lt_two_pow (by omega) (by omega)
  congr 2; omega

theorem xor8 {a b : Nat} (ha : a < 256) (hb : b < 256) : arithE .xor .u8 (a : Int) (b : Int) = some (.int .u8 ((a ^^^ b : Nat) : Int)) := by
  show some (EV.int .u8 (IntKind.u8.wrap ((BitVec.ofInt 8 (a : Int) ^^^ BitVec.ofInt 8 (b : Int)).toNat : Int))) = _
  rw [BitVec.toNat_xor, toNat8 ha, toNat8 hb, wrap_u8]
  have : a ^^^ b < 2 ^ 8 := Nat.xor_lt_two_pow (by omega) (by omega)
  congr 2; omega

theorem and32_1 {a : Nat} (ha : a < 4294967296) : arithE .and .u32 (a : Int) 1 = some (.int .u32 ((a % 2 : Nat) : Int)) := by
  have h1 : (BitVec.ofInt 32 (1 : Int)).toNat = 1 := rfl
  show some (EV.int .u32 (IntKind.u32.wrap ((BitVec.ofInt 32 (a : Int) &&& BitVec.ofInt 32 (1 : Int)).toNat : Int))) = _
  rw [BitVec.toNat_and, toNat32 ha, h1, wrap_u32, Nat.and_one_is_mod]
  congr 2; omega

theorem shr32_1 (a : Nat) : shiftE .shr .u32 (a : Int) 1 = some (.int .u32 ((a / 2 : Nat) : Int)) := by
  show some (EV.int .u32 ((a : Int).fdiv 2)) = _
  rw [Int.fdiv_eq_ediv_of_nonneg _ (by omega)]
  congr 2
theorem shr32_8 (a : Nat) : shiftE .shr .u32 (a : Int) 8 = some (.int .u32 ((a / 256 : Nat) : Int)) := by
  show some (EV.int .u32 ((a : Int).fdiv 256)) = _
  rw [Int.fdiv_eq_ediv_of_nonneg _ (by omega)]
  congr 2

/-- A step, a byte's steps, a register behind bytes. -/
def crcBit (c : Nat) : Nat := match Nat.beq (Nat.mod c 2) 1 with
  | true => Nat.xor (Nat.div c 2) 3988292384
  | false => Nat.div c 2
def crcByte (c : Nat) : Nat := crcBit (crcBit (crcBit (crcBit (crcBit (crcBit (crcBit (crcBit c)))))))
def crcMore : Nat → List Nat → Nat
  | c, [] => c
  | c, b :: bs => match Nat.ble 0 c with
    | true => crcMore (Nat.xor (crcByte (Nat.xor (Nat.mod c 256) b)) (Nat.div c 256)) bs
    | false => 0

theorem crcBit_eq (c : Nat) : crcBit c = if c % 2 = 1 then (c / 2) ^^^ 3988292384 else c / 2 := by
  unfold crcBit
  split
  · rename_i h; rw [if_pos (show c % 2 = 1 from Nat.eq_of_beq_eq_true h)]; rfl
  · rename_i h
    rw [if_neg (fun e => by rw [show Nat.mod c 2 = c % 2 from rfl, e] at h; cases h)]; rfl

theorem crcBit_lt {c : Nat} (h : c < 4294967296) : crcBit c < 4294967296 := by
  rw [crcBit_eq]
  split
  · exact Nat.xor_lt_two_pow (n := 32) (by omega) (by omega)
  · omega

def iterBit : Nat → Nat → Nat
  | 0, c => c
  | n + 1, c => iterBit n (crcBit c)

theorem iterBit_succ : ∀ (n c : Nat), iterBit (n + 1) c = crcBit (iterBit n c)
  | 0, c => rfl
  | n + 1, c => by rw [iterBit, iterBit_succ n (crcBit c)]; rfl

theorem iterBit_lt : ∀ (n : Nat) {c : Nat}, c < 4294967296 → iterBit n c < 4294967296
  | 0, c, h => h
  | n + 1, c, h => iterBit_lt n (crcBit_lt h)

theorem crcByte_eq (c : Nat) : crcByte c = iterBit 8 c := rfl
theorem crcByte_lt {c : Nat} (h : c < 4294967296) : crcByte c < 4294967296 := iterBit_lt 8 h

theorem crcMore_cons (c b : Nat) (bs : List Nat) : crcMore c (b :: bs) = crcMore ((crcByte ((c % 256) ^^^ b)) ^^^ (c / 256)) bs := by
  simp only [crcMore]
  rw [Nat.ble_eq_true_of_le (Nat.zero_le c)]
  rfl

/-- A byte's steps, laid out. -/
def crcTab : List EV := (List.range 256).map fun i => EV.int .u32 (crcByte i : Nat)

theorem crcTab_length : crcTab.length = 256 := by simp [crcTab]
theorem crcTab_get {i : Nat} (h : i < 256) : crcTab[i]? = some (.int .u32 (crcByte i : Nat)) := by simp [crcTab, h]

/-- Bytes, out of rows. -/
def bytes8 : List (List EV) → Option (List Nat)
  | [] => some []
  | [.int .u8 n] :: rest => if 0 ≤ n ∧ n < 256 then match bytes8 rest with
      | some bs => some (n.toNat :: bs)
      | none => none
    else none
  | _ => none

theorem bytes8_get : ∀ {rows : List (List EV)} {bs : List Nat}, bytes8 rows = some bs → bs.length = rows.length ∧ ∀ (i b : Nat), bs[i]? = some b → b < 256 ∧ rows[i]? = some [.int .u8 (b : Int)]
  | [], bs, h => by simp [bytes8] at h; subst h; simp
  | r :: rest, bs, h => by
    unfold bytes8 at h
    split at h
    · cases h
      exact ⟨by simp_all, by simp_all⟩
    · rename_i n rest' heq
      cases heq
      split at h
      · rename_i hn
        split at h
        · rename_i bs' hb
          cases h
          obtain ⟨h1, h2⟩ := bytes8_get hb
          refine ⟨by simp [h1], fun i b hi => ?_⟩
          cases i with
          | zero =>
            simp at hi; subst hi
            exact ⟨by omega, by simp; omega⟩
          | succ i => simpa using h2 i b (by simpa using hi)
        · cases h
      · cases h
    · cases h

/-- The sum of a slice's bytes. -/
def crcE (args : List EV) (s : St) : Option (EV × St) :=
  match args with
  | [x] => match x.szIs 1 && Nat.ble s.keep s.h.length with
    | true => match rowsOf s x with
      | some rows => match bytes8 rows with
        | some bs => if Nat.ble bs.length 17592186044416 then some (.int .u32 (Nat.xor (crcMore 4294967295 bs) 4294967295 : Nat), s) else none
        | none => none
      | none => none
    | false => none
  | _ => none

section
variable {C : Ctx} {prim : CallE → Nat → FuncId → List EV → St → Option (EV × St)} {f n0 n rid i d : Nat} {s s' : St} {l : List (Nat × EV)} {ops rest : List Oper} {Q : Tm → St → Prop}

/-- A call that hands references on. -/
theorem Wo.callR {tm : Tm} {o : Oper} {c : Call} {g : Operand} {gf : FuncId} {first cap as : List EV} {s' : St} {v : EV} (hw : wantedE ops tm o = some true) (ho : o.op = .call c) (hc : c.callee = .value g)
    (hg : evalO C tm g = some (.fn (.func gf) first cap)) (ha : evalL C tm c.args.toList = some as) (hb : C.byref gf = true) (he : Ev C prim gf (first ++ as ++ cap) s v s')
    (k : Wo C prim f rid ops (i + 1) rest (putE tm o.dst v) s' Q) : Wo C prim f rid ops i (o :: rest) tm s Q := by
  obtain ⟨N, r, h1, h2⟩ := k
  obtain ⟨M, h3⟩ := he
  refine ⟨max N M, r, fun n hn => ?_, h2⟩
  simp only [runOps]
  rw [hw]
  simp only []
  have : opE C (callE C prim n) f rid i o tm s = some (v, s') := by
    unfold opE
    rw [ho]
    simp only [callO, hc, hg, ha, callV, hb, if_true]
    exact h3 n (by omega)
  rw [this]
  simp only [seqV_true, seqT_true, Bool.and_self]
  exact h1 n (by omega)

theorem Wk.callR {ty : TypeId} {pos : String} {after : Array Edge} {g : Option (Nat × Bool)} {x : Operand} {gf : FuncId} {first cap : List EV} {args : Array Operand} {ts : Array TypeId} {as : List EV} {v : EV} {s2 : St} (hin : dstsIn n ops = true) (hw : wantS ops l g = some true)
    (hxi : inFrame n x = true) (hx : evalS l x = some (.fn (.func gf) first cap)) (ha : evalSL n l args.toList = some as) (hb : C.byref gf = true) (he : Ev C prim gf (first ++ as ++ cap) s v s2)
    (hdn : Nat.ble (Nat.succ d) n = true) (k : Wk C prim f rid n ops (i + 1) rest ((d, v) :: l) s2 Q) : Wk C prim f rid n ops i (⟨some d, .call ⟨.value x, args, ts⟩, ty, pos, after, g⟩ :: rest) l s Q :=
  ⟨fun tm ht => .callR (wantS_eq (o := ⟨some d, .call ⟨.value x, args, ts⟩, ty, pos, after, g⟩) ht hw fun j _ _ d hd => dstsIn_get hin j d hd) rfl rfl (evalS_eq ht hxi hx) (evalSL_eq ht ha) hb he (k.go _ (ht.put hdn))⟩

theorem Wk.makeFunc {ty : TypeId} {pos : String} {after : Array Edge} {g : Option (Nat × Bool)} {fn : Fn} {a b : Array Operand} {as bs : List EV} (hin : dstsIn n ops = true) (hw : wantS ops l g = some true) (ha : evalSL n l a.toList = some as) (hb : evalSL n l b.toList = some bs)
    (hdn : Nat.ble (Nat.succ d) n = true) (k : Wk C prim f rid n ops (i + 1) rest ((d, .fn fn as bs) :: l) s Q) : Wk C prim f rid n ops i (⟨some d, .makeFunc fn a b, ty, pos, after, g⟩ :: rest) l s Q :=
  .op (s' := s) (v := .fn fn as bs) hin hw (fun tm ht call => by simp only [opE, makeFuncO, evalSL_eq ht ha, evalSL_eq ht hb]) rfl hdn k

theorem Wk.build {ty : TypeId} {pos : String} {after : Array Edge} {g : Option (Nat × Bool)} {t : TypeId} {v : EV} (hin : dstsIn n ops = true) (hw : wantS ops l g = some true) (hv : buildE C t [] = some v)
    (hdn : Nat.ble (Nat.succ d) n = true) (k : Wk C prim f rid n ops (i + 1) rest ((d, v) :: l) s Q) : Wk C prim f rid n ops i (⟨some d, .build t #[], ty, pos, after, g⟩ :: rest) l s Q :=
  .op (s' := s) (v := v) hin hw (fun tm ht call => by simp [opE, buildO, partsE, freezeP, hv, just]) rfl hdn k

/-- A slice's place, and the byte that lies there. -/
theorem row_at {x : EV} {rows : List (List EV)} {k : Nat} {v : EV} {t5 : TypeId} {j j5 : TI} (hx : x.szIs 1 = true) (hr : rowsOf s x = some rows) (hk : rows[k]? = some [v]) {t e : TypeId} {it : TI} (ht : C.ti t = some it) (hd : it.desc = .slice e) (he : C.ti e = some j) (hj : j.size = 1)
    (h5 : C.ti t5 = some j5) (h5d : isAggD j5.desc = false) : ∃ a, indexAddrE C t x (.int .i64 (k : Int)) = some a ∧ loadE C t5 a s = some v := by
  have hkl : k < rows.length := (List.getElem?_eq_some_iff.1 hk).1
  unfold indexAddrE
  rw [ht]
  simp only [hd, he, hj, hx, if_true]
  cases x <;> simp only [rowsOf] at hr <;> try (cases hr; done)
  · cases hr; simp at hkl
  · cases hr; simp at hkl
  · rename_i m c z rs
    cases hr
    refine ⟨.cptr m [v], ?_, ?_⟩
    · simp only [asIndex]
      rw [if_pos ⟨by omega, by omega⟩]
      simp [lget_eq, hk]
    · unfold loadE
      rw [h5]
      simp [h5d, readAt]
  · rename_i b g off n' sz
    split at hr
    · rename_i kb hkb
      split at hr
      · rename_i hle
        cases hr
        have hsz : sz = 1 := by simpa [EV.szIs] using hx
        subst hsz
        have hkn : k < n' := by rw [chunk_length] at hkl; exact hkl
        refine ⟨.ptr b g (off + k * 1), ?_, ?_⟩
        · simp only [asIndex]
          rw [if_pos ⟨by omega, by omega⟩]
          simp
        · unfold loadE
          rw [h5]
          simp only [h5d, Bool.false_eq_true, if_false, readAt, hkb]
          rw [if_pos (by omega)]
          have hc : ((kb.cells.drop (off + k * 1)).take 1) = [v] := by
            have hch : ∀ (n k : Nat) (l : List EV), k < n → (chunk 1 n l)[k]? = some ((l.drop k).take 1) := by
              intro n
              induction n with
              | zero => intro k l h; omega
              | succ n ih =>
                intro k l h
                cases k with
                | zero => simp [chunk]
                | succ k =>
                  simp only [chunk, List.getElem?_cons_succ]
                  rw [ih k _ (by omega), List.drop_drop, Nat.add_comm 1 k]
            have := hch n' k (kb.cells.drop off) hkn
            rw [hk] at this
            rw [List.drop_drop] at this
            simpa using this.symm
          rw [hc]
      · cases hr
    · cases hr
end
end Go.Ev
