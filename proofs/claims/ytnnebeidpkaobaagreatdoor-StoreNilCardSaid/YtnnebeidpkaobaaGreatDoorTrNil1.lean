/- What the functions that are answered otherwise come to, over this seat's program. -/
import Derived.Test.YtnnebeidpkaobaaGreatDoorTrIns
import Derived.Test.YtnnebeidpkaobaaGreatDoorTrCrc
import Derived.Test.YtnnebeidpkaobaaGreatDoorTrFew
import Derived.Test.YtnnebeidpkaobaaGreatDoorEvBridge
set_option linter.unusedVariables false
set_option linter.unusedSimpArgs false
set_option linter.unusedSectionVars false
namespace Go.Ev
open Go Go.Proofs
set_option maxRecDepth 100000

theorem ok : CtxOk Tryz.prog C := mkC_ok (by kernel_rfl) (by kernel_rfl) (by kernel_rfl)

theorem el60 : elemTI C 60 = some (84, ({ desc := TypeDesc.struct #[{ name := "Name", type := 9, offset := 0, embedded := false, tag := "", pkgPath := "", byteOffset := 0 }, { name := "Node", type := 3, offset := 1, embedded := false, tag := "", pkgPath := "", byteOffset := 16 }], size := 2, bytes := 24, zero := some (.agg #[.string ⟨#[]⟩, .int .i64 0]), eqKs := some [.str, .int] } : TI)) := by kernel_rfl
theorem el31 : elemTI C 31 = some (47, ({ desc := TypeDesc.struct #[{ name := "Id", type := 3, offset := 0, embedded := false, tag := "", pkgPath := "", byteOffset := 0 }, { name := "Url", type := 9, offset := 1, embedded := false, tag := "", pkgPath := "", byteOffset := 8 }, { name := "Tag", type := 9, offset := 2, embedded := false, tag := "", pkgPath := "", byteOffset := 24 }, { name := "Next", type := 2, offset := 3, embedded := false, tag := "", pkgPath := "", byteOffset := 40 }, { name := "Fails", type := 3, offset := 4, embedded := false, tag := "", pkgPath := "", byteOffset := 48 }], size := 5, bytes := 56, zero := some (.agg #[.int .i64 0, .string ⟨#[]⟩, .string ⟨#[]⟩, .int .i64 0, .int .i64 0]), eqKs := some [.int, .str, .str, .int, .int] } : TI)) := by kernel_rfl
theorem el32 : elemTI C 32 = some (49, ({ desc := TypeDesc.struct #[{ name := "Id", type := 3, offset := 0, embedded := false, tag := "", pkgPath := "", byteOffset := 0 }, { name := "Feed", type := 3, offset := 1, embedded := false, tag := "", pkgPath := "", byteOffset := 8 }, { name := "Guid", type := 9, offset := 2, embedded := false, tag := "", pkgPath := "", byteOffset := 16 }, { name := "Url", type := 9, offset := 3, embedded := false, tag := "", pkgPath := "", byteOffset := 32 }, { name := "Title", type := 9, offset := 4, embedded := false, tag := "", pkgPath := "", byteOffset := 48 }, { name := "Date", type := 2, offset := 5, embedded := false, tag := "", pkgPath := "", byteOffset := 64 }, { name := "Long", type := 2, offset := 6, embedded := false, tag := "", pkgPath := "", byteOffset := 72 }, { name := "St", type := 3, offset := 7, embedded := false, tag := "", pkgPath := "", byteOffset := 80 }, { name := "Why", type := 3, offset := 8, embedded := false, tag := "", pkgPath := "", byteOffset := 88 }, { name := "Pinned", type := 4, offset := 9, embedded := false, tag := "", pkgPath := "", byteOffset := 96 }, { name := "Pos", type := 2, offset := 10, embedded := false, tag := "", pkgPath := "", byteOffset := 104 }, { name := "Tries", type := 3, offset := 11, embedded := false, tag := "", pkgPath := "", byteOffset := 112 }, { name := "Next", type := 2, offset := 12, embedded := false, tag := "", pkgPath := "", byteOffset := 120 }, { name := "Cur", type := 9, offset := 13, embedded := false, tag := "", pkgPath := "", byteOffset := 128 }, { name := "Hops", type := 3, offset := 14, embedded := false, tag := "", pkgPath := "", byteOffset := 144 }, { name := "Gen", type := 3, offset := 15, embedded := false, tag := "", pkgPath := "", byteOffset := 152 }, { name := "Tag", type := 9, offset := 16, embedded := false, tag := "", pkgPath := "", byteOffset := 160 }, { name := "Total", type := 2, offset := 17, embedded := false, tag := "", pkgPath := "", byteOffset := 176 }, { name := "Size", type := 2, offset := 18, embedded := false, tag := "", pkgPath := "", byteOffset := 184 }, { name := "Sha", type := 9, offset := 19, embedded := false, tag := "", pkgPath := "", byteOffset := 192 }], size := 20, bytes := 208, zero := some (.agg #[.int .i64 0, .int .i64 0, .string ⟨#[]⟩, .string ⟨#[]⟩, .string ⟨#[]⟩, .int .i64 0, .int .i64 0, .int .i64 0, .int .i64 0, .bool false, .int .i64 0, .int .i64 0, .int .i64 0, .string ⟨#[]⟩, .int .i64 0, .int .i64 0, .string ⟨#[]⟩, .int .i64 0, .int .i64 0, .string ⟨#[]⟩]), eqKs := some [.int, .int, .str, .str, .str, .int, .int, .int, .int, .bool, .int, .int, .int, .str, .int, .int, .str, .int, .int, .str] } : TI)) := by kernel_rfl
theorem ext223 : IsExt Tryz.prog 223 Extern.BytealgCompare.compare := ⟨_, Tryz.func223, by kernel_rfl, by kernel_rfl, by kernel_rfl, by kernel_rfl⟩
theorem ext195 : IsExt Tryz.prog 195 (Extern.BytealgMakeNoZero.makeNoZero #[3] #[71]) := ⟨_, Tryz.func195, by kernel_rfl, by kernel_rfl, by kernel_rfl, by kernel_rfl⟩
theorem ext210 : IsExt Tryz.prog 210 (Extern.SlicesOverlaps.overlaps #[60, 60] #[4]) := ⟨_, Tryz.func210, by kernel_rfl, by kernel_rfl, by kernel_rfl, by kernel_rfl⟩
theorem ext190 : IsExt Tryz.prog 190 (Extern.SlicesOverlaps.overlaps #[31, 31] #[4]) := ⟨_, Tryz.func190, by kernel_rfl, by kernel_rfl, by kernel_rfl, by kernel_rfl⟩
theorem ext192 : IsExt Tryz.prog 192 (Extern.SlicesOverlaps.overlaps #[32, 32] #[4]) := ⟨_, Tryz.func192, by kernel_rfl, by kernel_rfl, by kernel_rfl, by kernel_rfl⟩

theorem body_of {f : Nat} {fn : Func} (h : Tryz.prog.funcs[f]? = some fn) (h2 : (fn.name != "runtime.NumGoroutine" && fn.body.isSome) = true) : HasBody Tryz.prog f := by
  simp only [Bool.and_eq_true, bne_iff_ne, ne_eq] at h2
  exact ⟨fn, h, h2.1, h2.2⟩

/-- Which functions 'Do' may be handed. -/
def doneBy (h : FuncId) : Bool := Nat.beq h 222

theorem doneBy_ok : ∀ h, doneBy h = true → HasBody Tryz.prog h := fun h hh => by
  obtain rfl : h = 222 := Nat.eq_of_beq_eq_true hh
  exact body_of Tryz.func222 (by kernel_rfl)

def cmpE (args : List EV) (s : St) : Option (EV × St) := match args with
  | [.str a, .str b] => some (.int .i64 (Lib.compareBytes a.data.toList b.data.toList), s)
  | _ => none

def makeE (args : List EV) (s : St) : Option (EV × St) := match args with
  | [.int .i64 n] => if 0 ≤ n ∧ n ≤ 2 ^ 44 then some (.sref s.h.length 0 0 n.toNat 1, (newBlk s true (List.replicate n.toNat .dead)).2) else none
  | _ => none

noncomputable def prim1 (call : CallE) (k : Nat) (f : FuncId) (args : List EV) (s : St) : Option (EV × St) := match k with
  | 1 => if f = 221 then onceE doneBy call args s else none
  | 2 => if f = 201 then insE C 60 args s else if f = 155 then insE C 31 args s else if f = 156 then insE C 32 args s else none
  | 4 => if f = 223 then cmpE args s else none
  | 5 => if f = 195 then makeE args s else none
  | _ => none

theorem prim1_ok {C' : Ctx} (hC' : CtxOk Tryz.prog C') : PrimOk Tryz.prog C' prim1 := by
  intro call hcall k f hk args s v s' hop Cm β w A hI hr
  unfold prim1 at hop
  split at hop
  · split at hop
    · rename_i hf; subst hf; exact prim_once doneBy_ok hcall hop hI hr
    · cases hop
  · split at hop
    · rename_i hf; subst hf
      exact insE_sound ok walk201 (body_of Tryz.func201 (by kernel_rfl)) el60 ti3 rfl ext210 hop hI hr
    · split at hop
      · rename_i hf; subst hf
        exact insE_sound ok walk155 (body_of Tryz.func155 (by kernel_rfl)) el31 ti3 rfl ext190 hop hI hr
      · split at hop
        · rename_i hf; subst hf
          exact insE_sound ok walk156 (body_of Tryz.func156 (by kernel_rfl)) el32 ti3 rfl ext192 hop hI hr
        · cases hop
  · split at hop
    · rename_i hf; subst hf
      unfold cmpE at hop
      split at hop
      · cases hop; exact prim_cmp ext223 hI hr
      · cases hop
    · cases hop
  · split at hop
    · rename_i hf; subst hf
      unfold makeE at hop
      split at hop
      · split at hop
        · rename_i hn
          cases hop
          exact prim_make hC' (t := 71) (e := 5) (by kernel_rfl) ext195 hI hn.1 hn.2 hr
        · cases hop
      · cases hop
    · cases hop
  · cases hop

theorem once1 : PrimOnce prim1 := ⟨doneBy, rfl, fun call args s => by simp [prim1]⟩
end Go.Ev
