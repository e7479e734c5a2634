/- StoreNil: a store that there is not, or that Open did not make, has nothing and changes nothing: for every change. The row lists two of Go's own tables, as the given statement does; nothing else is asked. -/
import Derived.Test.YtnnebeidpkaobaaGreatDoorTrNil2
import Derived.Test.YtnnebeidpkaobaaGreatDoorEvShape
import Derived.Test.YtnnebeidpkaobaaGreatDoorChecked
import Derived.Test.YtnnebeidpkaobaaGreatDoorRows
import Derived.WalkKit
import Derived.ProofKit
import Derived.Carry
set_option linter.unusedVariables false
set_option linter.unusedSimpArgs false
set_option linter.unusedSectionVars false
namespace Go.Ev.Two
open Go Go.Proofs
set_option maxRecDepth 100000

theorem prim2_ok : PrimOk Tryz.prog C prim2 := by
  intro call hcall k f hk args s v s' hop Cm β w A hI hr
  unfold prim2 at hop
  split at hop
  · split at hop
    · rename_i hf
      subst hf
      have hop' := hop
      unfold crcE at hop
      split at hop
      · rename_i x
        split at hop
        · rename_i hx
          simp only [Bool.and_eq_true] at hx
          split at hop
          · rename_i rows hrows
            split at hop
            · rename_i bs hbs
              split at hop
              · rename_i h44
                cases hop
                obtain ⟨N, hN⟩ := ev_sum once1 hx.1 hrows hbs (Nat.le_of_ble_eq_true hx.2) (Nat.le_of_ble_eq_true h44)
                exact callE_sound Go.Ev.ok (prim1_ok Go.Ev.ok) N _ _ _ _ _ (hN N (Nat.le_refl _)) Cm β w A hI hr
              · cases hop
            · cases hop
          · cases hop
        · cases hop
      · cases hop
    · cases hop
  · exact prim1_ok ok call hcall _ f hk args s v s' hop Cm β w A hI hr

theorem row_shape {cs : List EV} (h : shapeD Tryz.prog 5 51 cs = true) (hl : cs.length = 28) : ∃ (c0 : Int) (f0 : Int) (f1 : ByteArray) (f2 : ByteArray) (f3 : Int) (f4 : Int) (i0 : Int) (i1 : Int) (s2 : ByteArray) (s3 : ByteArray) (s4 : ByteArray) (i5 : Int) (i6 : Int) (i7 : Int) (i8 : Int) (b9 : Bool) (i10 : Int) (i11 : Int) (i12 : Int) (s13 : ByteArray) (i14 : Int) (i15 : Int) (s16 : ByteArray) (i17 : Int) (i18 : Int) (s19 : ByteArray) (c1 : Int) (c2 : Int), cs = [.int .i64 c0, .int .i64 f0, .str f1, .str f2, .int .i64 f3, .int .i64 f4, .int .i64 i0, .int .i64 i1, .str s2, .str s3, .str s4, .int .i64 i5, .int .i64 i6, .int .i64 i7, .int .i64 i8, .bool b9, .int .i64 i10, .int .i64 i11, .int .i64 i12, .str s13, .int .i64 i14, .int .i64 i15, .str s16, .int .i64 i17, .int .i64 i18, .str s19, .int .i64 c1, .int .i64 c2] := by
  obtain ⟨a0, a1, a2, a3, a4, a5, a6, a7, a8, a9, a10, a11, a12, a13, a14, a15, a16, a17, a18, a19, a20, a21, a22, a23, a24, a25, a26, a27, rfl⟩ : ∃ a0 a1 a2 a3 a4 a5 a6 a7 a8 a9 a10 a11 a12 a13 a14 a15 a16 a17 a18 a19 a20 a21 a22 a23 a24 a25 a26 a27, cs = [a0, a1, a2, a3, a4, a5, a6, a7, a8, a9, a10, a11, a12, a13, a14, a15, a16, a17, a18, a19, a20, a21, a22, a23, a24, a25, a26, a27] := by
    match cs, hl with
    | [a0, a1, a2, a3, a4, a5, a6, a7, a8, a9, a10, a11, a12, a13, a14, a15, a16, a17, a18, a19, a20, a21, a22, a23, a24, a25, a26, a27], _ => exact ⟨a0, a1, a2, a3, a4, a5, a6, a7, a8, a9, a10, a11, a12, a13, a14, a15, a16, a17, a18, a19, a20, a21, a22, a23, a24, a25, a26, a27, rfl⟩
  have h1 := shp_struct h Tryz.underlying51
  obtain ⟨h2, r2⟩ := shp_cons h1 (n := 1) (by kernel_rfl) (a := [a0]) (b := [a1, a2, a3, a4, a5, a6, a7, a8, a9, a10, a11, a12, a13, a14, a15, a16, a17, a18, a19, a20, a21, a22, a23, a24, a25, a26, a27]) rfl rfl
  obtain ⟨h3, r3⟩ := shp_cons r2 (n := 5) (by kernel_rfl) (a := [a1, a2, a3, a4, a5]) (b := [a6, a7, a8, a9, a10, a11, a12, a13, a14, a15, a16, a17, a18, a19, a20, a21, a22, a23, a24, a25, a26, a27]) rfl rfl
  have h4 := shp_struct h3 Tryz.underlying47
  obtain ⟨h5, r5⟩ := shp_cons h4 (n := 1) (by kernel_rfl) (a := [a1]) (b := [a2, a3, a4, a5]) rfl rfl
  obtain ⟨h6, r6⟩ := shp_cons r5 (n := 1) (by kernel_rfl) (a := [a2]) (b := [a3, a4, a5]) rfl rfl
  obtain ⟨h7, r7⟩ := shp_cons r6 (n := 1) (by kernel_rfl) (a := [a3]) (b := [a4, a5]) rfl rfl
  obtain ⟨h8, r8⟩ := shp_cons r7 (n := 1) (by kernel_rfl) (a := [a4]) (b := [a5]) rfl rfl
  obtain ⟨h9, r9⟩ := shp_cons r8 (n := 1) (by kernel_rfl) (a := [a5]) (b := []) rfl rfl
  obtain ⟨h10, r10⟩ := shp_cons r3 (n := 20) (by kernel_rfl) (a := [a6, a7, a8, a9, a10, a11, a12, a13, a14, a15, a16, a17, a18, a19, a20, a21, a22, a23, a24, a25]) (b := [a26, a27]) rfl rfl
  have h11 := shp_struct h10 Tryz.underlying49
  obtain ⟨h12, r12⟩ := shp_cons h11 (n := 1) (by kernel_rfl) (a := [a6]) (b := [a7, a8, a9, a10, a11, a12, a13, a14, a15, a16, a17, a18, a19, a20, a21, a22, a23, a24, a25]) rfl rfl
  obtain ⟨h13, r13⟩ := shp_cons r12 (n := 1) (by kernel_rfl) (a := [a7]) (b := [a8, a9, a10, a11, a12, a13, a14, a15, a16, a17, a18, a19, a20, a21, a22, a23, a24, a25]) rfl rfl
  obtain ⟨h14, r14⟩ := shp_cons r13 (n := 1) (by kernel_rfl) (a := [a8]) (b := [a9, a10, a11, a12, a13, a14, a15, a16, a17, a18, a19, a20, a21, a22, a23, a24, a25]) rfl rfl
  obtain ⟨h15, r15⟩ := shp_cons r14 (n := 1) (by kernel_rfl) (a := [a9]) (b := [a10, a11, a12, a13, a14, a15, a16, a17, a18, a19, a20, a21, a22, a23, a24, a25]) rfl rfl
  obtain ⟨h16, r16⟩ := shp_cons r15 (n := 1) (by kernel_rfl) (a := [a10]) (b := [a11, a12, a13, a14, a15, a16, a17, a18, a19, a20, a21, a22, a23, a24, a25]) rfl rfl
  obtain ⟨h17, r17⟩ := shp_cons r16 (n := 1) (by kernel_rfl) (a := [a11]) (b := [a12, a13, a14, a15, a16, a17, a18, a19, a20, a21, a22, a23, a24, a25]) rfl rfl
  obtain ⟨h18, r18⟩ := shp_cons r17 (n := 1) (by kernel_rfl) (a := [a12]) (b := [a13, a14, a15, a16, a17, a18, a19, a20, a21, a22, a23, a24, a25]) rfl rfl
  obtain ⟨h19, r19⟩ := shp_cons r18 (n := 1) (by kernel_rfl) (a := [a13]) (b := [a14, a15, a16, a17, a18, a19, a20, a21, a22, a23, a24, a25]) rfl rfl
  obtain ⟨h20, r20⟩ := shp_cons r19 (n := 1) (by kernel_rfl) (a := [a14]) (b := [a15, a16, a17, a18, a19, a20, a21, a22, a23, a24, a25]) rfl rfl
  obtain ⟨h21, r21⟩ := shp_cons r20 (n := 1) (by kernel_rfl) (a := [a15]) (b := [a16, a17, a18, a19, a20, a21, a22, a23, a24, a25]) rfl rfl
  obtain ⟨h22, r22⟩ := shp_cons r21 (n := 1) (by kernel_rfl) (a := [a16]) (b := [a17, a18, a19, a20, a21, a22, a23, a24, a25]) rfl rfl
  obtain ⟨h23, r23⟩ := shp_cons r22 (n := 1) (by kernel_rfl) (a := [a17]) (b := [a18, a19, a20, a21, a22, a23, a24, a25]) rfl rfl
  obtain ⟨h24, r24⟩ := shp_cons r23 (n := 1) (by kernel_rfl) (a := [a18]) (b := [a19, a20, a21, a22, a23, a24, a25]) rfl rfl
  obtain ⟨h25, r25⟩ := shp_cons r24 (n := 1) (by kernel_rfl) (a := [a19]) (b := [a20, a21, a22, a23, a24, a25]) rfl rfl
  obtain ⟨h26, r26⟩ := shp_cons r25 (n := 1) (by kernel_rfl) (a := [a20]) (b := [a21, a22, a23, a24, a25]) rfl rfl
  obtain ⟨h27, r27⟩ := shp_cons r26 (n := 1) (by kernel_rfl) (a := [a21]) (b := [a22, a23, a24, a25]) rfl rfl
  obtain ⟨h28, r28⟩ := shp_cons r27 (n := 1) (by kernel_rfl) (a := [a22]) (b := [a23, a24, a25]) rfl rfl
  obtain ⟨h29, r29⟩ := shp_cons r28 (n := 1) (by kernel_rfl) (a := [a23]) (b := [a24, a25]) rfl rfl
  obtain ⟨h30, r30⟩ := shp_cons r29 (n := 1) (by kernel_rfl) (a := [a24]) (b := [a25]) rfl rfl
  obtain ⟨h31, r31⟩ := shp_cons r30 (n := 1) (by kernel_rfl) (a := [a25]) (b := []) rfl rfl
  obtain ⟨h32, r32⟩ := shp_cons r10 (n := 1) (by kernel_rfl) (a := [a26]) (b := [a27]) rfl rfl
  obtain ⟨h33, r33⟩ := shp_cons r32 (n := 1) (by kernel_rfl) (a := [a27]) (b := []) rfl rfl
  obtain ⟨c0, rfl, _⟩ := shp_int h2 Tryz.underlying3
  obtain ⟨f0, rfl, _⟩ := shp_int h5 Tryz.underlying3
  obtain ⟨f1, rfl, _⟩ := shp_str h6 Tryz.underlying9
  obtain ⟨f2, rfl, _⟩ := shp_str h7 Tryz.underlying9
  obtain ⟨f3, rfl, _⟩ := shp_int h8 Tryz.underlying2
  obtain ⟨f4, rfl, _⟩ := shp_int h9 Tryz.underlying3
  obtain ⟨i0, rfl, _⟩ := shp_int h12 Tryz.underlying3
  obtain ⟨i1, rfl, _⟩ := shp_int h13 Tryz.underlying3
  obtain ⟨s2, rfl, _⟩ := shp_str h14 Tryz.underlying9
  obtain ⟨s3, rfl, _⟩ := shp_str h15 Tryz.underlying9
  obtain ⟨s4, rfl, _⟩ := shp_str h16 Tryz.underlying9
  obtain ⟨i5, rfl, _⟩ := shp_int h17 Tryz.underlying2
  obtain ⟨i6, rfl, _⟩ := shp_int h18 Tryz.underlying2
  obtain ⟨i7, rfl, _⟩ := shp_int h19 Tryz.underlying3
  obtain ⟨i8, rfl, _⟩ := shp_int h20 Tryz.underlying3
  obtain ⟨b9, rfl⟩ := shp_bool h21 Tryz.underlying4
  obtain ⟨i10, rfl, _⟩ := shp_int h22 Tryz.underlying2
  obtain ⟨i11, rfl, _⟩ := shp_int h23 Tryz.underlying3
  obtain ⟨i12, rfl, _⟩ := shp_int h24 Tryz.underlying2
  obtain ⟨s13, rfl, _⟩ := shp_str h25 Tryz.underlying9
  obtain ⟨i14, rfl, _⟩ := shp_int h26 Tryz.underlying3
  obtain ⟨i15, rfl, _⟩ := shp_int h27 Tryz.underlying3
  obtain ⟨s16, rfl, _⟩ := shp_str h28 Tryz.underlying9
  obtain ⟨i17, rfl, _⟩ := shp_int h29 Tryz.underlying2
  obtain ⟨i18, rfl, _⟩ := shp_int h30 Tryz.underlying2
  obtain ⟨s19, rfl, _⟩ := shp_str h31 Tryz.underlying9
  obtain ⟨c1, rfl, _⟩ := shp_int h32 Tryz.underlying2
  obtain ⟨c2, rfl, _⟩ := shp_int h33 Tryz.underlying2
  exact ⟨c0, f0, f1, f2, f3, f4, i0, i1, s2, s3, s4, i5, i6, i7, i8, b9, i10, i11, i12, s13, i14, i15, s16, i17, i18, s19, c1, c2, rfl⟩
end Go.Ev.Two
namespace Go.Proofs.YtnnebeidpkaobaaGreatDoor
open Go Go.RowKit Go.Lib Go.Ev
open Go.ChangeShapes Go.WideShapes Go.ChangeAt
set_option maxRecDepth 100000
def nilLaid : List (String × DataW Unit) := [("unicode/utf8.acceptRanges", Rows.laid_unicode_utf8_acceptRanges), ("unicode/utf8.first", Rows.laid_unicode_utf8_first)]

theorem laid_out : laidOutB Tryz.prog = true := by kernel_rfl
theorem own : ownKnob Tryz.prog.godebug = none := by kernel_rfl

/-- The law's call. -/
theorem nil_calls {H : Type} {enc : TypeId × Value → H} {W : World} {A : Array Value} {d : DataW H} {ps : List MemPlace} (hsz : A.size = 28) (h : DataW.Trod enc Tryz.prog W 0 (fun _ => true) true 51 (.agg A) d ps) :
    Calls Tryz.prog 4 #[.agg A] W fun e w' => e = .returned (.bool true) ∧ Below W.heap.size W w' := by
  obtain ⟨fuel, hf⟩ := h
  have hp : plainTy Tryz.prog 5 51 = true := by kernel_rfl
  obtain ⟨h1, _⟩ := trod_rep fuel 5 _ _ _ hp hf
  obtain ⟨h3, h4⟩ := trod_shape fuel 5 _ _ _ hp hf
  have h28 : (cellsD d).length = 28 := by rw [h4]; kernel_rfl
  obtain ⟨c0, f0, f1, f2, f3, f4, i0, i1, s2, s3, s4, i5, i6, i7, i8, b9, i10, i11, i12, s13, i14, i15, s16, i17, i18, s19, c1, c2, hrow⟩ := Two.row_shape h3 h28
  rw [hrow] at h1
  have hv : Rep (allCom W) [] (.agg [.int .i64 c0, .int .i64 f0, .str f1, .str f2, .int .i64 f3, .int .i64 f4, .int .i64 i0, .int .i64 i1, .str s2, .str s3, .str s4, .int .i64 i5, .int .i64 i6, .int .i64 i7, .int .i64 i8, .bool b9, .int .i64 i10, .int .i64 i11, .int .i64 i12, .str s13, .int .i64 i14, .int .i64 i15, .str s16, .int .i64 i17, .int .i64 i18, .str s19, .int .i64 c1, .int .i64 c2]) (.agg A) := .agg h1
  obtain ⟨N, hN⟩ := Two.law_ev c0 f0 f3 f4 c1 c2 i0 i1 i5 i6 i7 i8 i10 i11 i12 i14 i15 i17 i18 b9 f1 f2 s2 s3 s4 s13 s16 s19 ⟨[], 0⟩
  have hs := callE_sound Two.ok Two.prim2_ok N _ _ _ _ _ (hN N (Nat.le_refl _)) (allCom W) [] W #[.agg A] (inv_all W) (.one hv)
  refine (hs.calls (body_of Tryz.func4 (by kernel_rfl))).mono fun e w' ⟨V, h1, h2⟩ => ?_
  have hb := h2.below
  obtain ⟨Cm', β', _, _, hr⟩ := h2
  cases hr
  exact ⟨h1, hb⟩

end Go.Proofs.YtnnebeidpkaobaaGreatDoor
