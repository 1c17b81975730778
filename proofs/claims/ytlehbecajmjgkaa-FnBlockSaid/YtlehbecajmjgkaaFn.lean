/- Part of a proof by a value interpreter: the functions of the program as typed functions, and their contracts. Made by a program of this proof (wip/tool/gen2.py). -/
import Derived.Test.YtlehbecajmjgkaaWp
import Derived.Test.YtlehbecajmjgkaaProg
set_option linter.unusedVariables false
set_option linter.unusedSimpArgs false
namespace Go.Proofs.Ytlehbecajmjgkaa.F
open Go Go.Proofs.Ytlehbecajmjgkaa.V

abbrev w64 (n : Int) : Int := IntKind.wrap IntKind.i64 n
abbrev w8 (n : Int) : Int := IntKind.wrap IntKind.u8 n
abbrev TErrorAddressString : Type := (List UInt8 × (Int × Unit))
abbrev TRow : Type := (Int × (List UInt8 × Unit))
abbrev TL01Cur : Type := (List UInt8 × (Int × (Int × Unit)))
abbrev TBoundsError : Type := (Int × (Int × (Bool × (UInt8 × Unit))))
abbrev TStack : Type := (List Int × (List (List UInt8) × Unit))
abbrev TTable : Type := (List TRow × Unit)
abbrev TLimits : Type := (Int × (Int × (Int × (Int × (Int × Unit)))))
abbrev TQc : Type := (Int × (Int × (List UInt8 × (List UInt8 × (List (List UInt8) × Unit)))))
abbrev THead : Type := (Int × (Int × (Int × (List UInt8 × (List UInt8 × (TQc × Unit))))))
abbrev TBlock : Type := (THead × (List (List UInt8) × Unit))
def tys : List (TypeId × Ty) := [(2, (.int .i64)), (3, (.int .i64)), (4, .bool), (5, (.int .u8)), (6, (.int .u8)), (7, (.pr (.int .i64) (.pr (.int .i64) (.pr .bool (.pr (.int .u8) .un))))), (8, (.pr (.int .i64) (.pr (.int .i64) (.pr .bool (.pr (.int .u8) .un))))), (9, .str), (10, .str), (11, .str), (12, (.int .u64)), (13, (.pr .str (.pr (.int .u64) .un))), (14, (.pr .str (.pr (.int .u64) .un))), (21, (.int .i32)), (22, (.sl (.int .u8))), (23, (.pr (.int .i64) (.pr (.int .i64) (.pr (.int .i64) (.pr (.int .i64) (.pr (.int .i64) .un)))))), (24, (.pr (.int .i64) (.pr (.int .i64) (.pr (.int .i64) (.pr (.int .i64) (.pr (.int .i64) .un)))))), (26, (.sl (.sl (.int .u8)))), (28, (.sl (.pr (.int .i64) (.pr (.sl (.int .u8)) .un)))), (29, (.pr (.sl (.pr (.int .i64) (.pr (.sl (.int .u8)) .un))) .un)), (30, (.pr (.sl (.pr (.int .i64) (.pr (.sl (.int .u8)) .un))) .un)), (33, (.pr (.int .i64) (.pr (.int .i64) (.pr (.sl (.int .u8)) (.pr (.sl (.int .u8)) (.pr (.sl (.sl (.int .u8))) .un)))))), (34, (.pr (.int .i64) (.pr (.int .i64) (.pr (.sl (.int .u8)) (.pr (.sl (.int .u8)) (.pr (.sl (.sl (.int .u8))) .un)))))), (35, (.pr (.int .i64) (.pr (.int .i64) (.pr (.int .i64) (.pr (.sl (.int .u8)) (.pr (.sl (.int .u8)) (.pr (.pr (.int .i64) (.pr (.int .i64) (.pr (.sl (.int .u8)) (.pr (.sl (.int .u8)) (.pr (.sl (.sl (.int .u8))) .un))))) .un))))))), (36, (.pr (.int .i64) (.pr (.int .i64) (.pr (.int .i64) (.pr (.sl (.int .u8)) (.pr (.sl (.int .u8)) (.pr (.pr (.int .i64) (.pr (.int .i64) (.pr (.sl (.int .u8)) (.pr (.sl (.int .u8)) (.pr (.sl (.sl (.int .u8))) .un))))) .un))))))), (40, (.pr (.pr (.int .i64) (.pr (.int .i64) (.pr (.int .i64) (.pr (.sl (.int .u8)) (.pr (.sl (.int .u8)) (.pr (.pr (.int .i64) (.pr (.int .i64) (.pr (.sl (.int .u8)) (.pr (.sl (.int .u8)) (.pr (.sl (.sl (.int .u8))) .un))))) .un)))))) (.pr (.sl (.sl (.int .u8))) .un))), (41, (.pr (.pr (.int .i64) (.pr (.int .i64) (.pr (.int .i64) (.pr (.sl (.int .u8)) (.pr (.sl (.int .u8)) (.pr (.pr (.int .i64) (.pr (.int .i64) (.pr (.sl (.int .u8)) (.pr (.sl (.int .u8)) (.pr (.sl (.sl (.int .u8))) .un))))) .un)))))) (.pr (.sl (.sl (.int .u8))) .un))), (44, (.sl (.int .i64))), (45, (.pr (.sl (.int .i64)) (.pr (.sl (.sl (.int .u8))) .un))), (46, (.pr (.sl (.int .i64)) (.pr (.sl (.sl (.int .u8))) .un))), (58, (.pr (.sl (.int .u8)) (.pr (.int .i64) (.pr (.int .i64) .un)))), (59, (.pr (.sl (.int .u8)) (.pr (.int .i64) (.pr (.int .i64) .un)))), (95, (.int .u64)), (98, (.pr (.int .i64) (.pr (.sl (.int .u8)) .un))), (99, (.pr (.int .i64) (.pr (.sl (.int .u8)) .un))), (102, (.arr 64 (.int .i64))), (103, (.arr 8 (.int .i64))), (113, (.int .u32)), (114, (.int .u8)), (115, (.int .u8)), (118, (.int .i32)), (119, (.int .i32))]
def els : List (Ty × TypeId) := [((.int .u8), 5), ((.sl (.int .u8)), 22), ((.pr (.int .i64) (.pr (.sl (.int .u8)) .un)), 99), ((.int .i64), 3)]
def el (t : Ty) : TypeId := (els.lookup t).getD 0
theorem tysB : (tys.all fun p => tyB Try.prog el p.2 p.1) = true := by kernel_rfl
theorem hT (con : FuncId → Option Con) : TysOk Try.prog ⟨tyOf tys, el, con⟩ := tysOk_of tysB
theorem hM : Try.prog.follows .mixedOrders = true := by kernel_rfl
abbrev i16 : List ATy := [.val (.sl (.int .u8))]
abbrev o16 : List RTy := [.bx (.pr (.sl (.int .u8)) (.pr (.int .i64) (.pr (.int .i64) .un))) [false]]
/-- loop.example/g00790/spec.l01New -/
noncomputable def spec_l01New (x0 : List UInt8) : Option (RDen o16 × BDen i16) :=
  iter (fun y0 : (TL01Cur × Unit) =>
    br ((ltB y0.1.2.2.1 ((List.length y0.1.1) : Int)))
      (br ((ltB y0.1.2.2.1 4000))
        (bnd ((bIdx y0.1.1 y0.1.2.2.1)) fun r1 =>
          some (.inl ((y0.1.1, ((iAnd IntKind.i64 (w64 ((w64 ((w64 (y0.1.2.1 * 37)) + (w64 ((UInt8.toNat r1) : Int)))) + 7)) 1073741823), ((w64 (y0.1.2.2.1 + 1)), ()))), ())))
        (some (.inr (((y0.1.1, (0, (y0.1.2.1, ()))), ()), ()))))
      (some (.inr (((y0.1.1, (0, (y0.1.2.1, ()))), ()), ()))))
    ((x0, ((w64 (1611 + ((List.length x0) : Int))), (0, ()))), ())
noncomputable def g16 (a : InDen i16) : Option (RDen o16 × BDen i16) := spec_l01New a.1
noncomputable def c16 : Con := mkCon i16 o16 g16
set_option maxRecDepth 100000 in
theorem e16 (y : InDen i16) : g16 y = evF ⟨tyOf tys, el, conOf []⟩ (fun _ => {}) Try.f16 i16 o16 y := by kernel_rfl
theorem h16 : c16.Holds Try.prog el 16 := holds_of hM (hT _) consOk_nil (fnOk_of (by kernel_rfl) (by kernel_rfl)) e16
abbrev i48 : List ATy := [.bx (.pr (.sl (.int .u8)) (.pr (.int .i64) (.pr (.int .i64) .un))) [false]]
abbrev o48 : List RTy := [.val (.int .i64) []]
/-- loop.example/g00790/spec.l01Byte -/
noncomputable def spec_l01Byte (x0 : TL01Cur) : Option (RDen o48 × BDen i48) :=
  br ((ltB x0.2.1 ((List.length x0.1) : Int)))
    (bnd ((bIdx x0.1 x0.2.1)) fun r0 =>
      some (((iAnd IntKind.i64 (w64 ((iAnd IntKind.i64 (iXor IntKind.i64 (iShr IntKind.i64 (w64 ((w64 (x0.2.2.1 * 6364136223846793005)) + 1442695040888963407)) 33) (iShr IntKind.i64 (w64 ((w64 (x0.2.2.1 * 6364136223846793005)) + 1442695040888963407)) 45)) 255) + (w64 ((UInt8.toNat r0) : Int)))) 255), ()), ((x0.1, ((w64 (x0.2.1 + 1)), ((w64 ((w64 (x0.2.2.1 * 6364136223846793005)) + 1442695040888963407)), x0.2.2.2))), ())))
    (some (((iAnd IntKind.i64 (iXor IntKind.i64 (iShr IntKind.i64 (w64 ((w64 (x0.2.2.1 * 6364136223846793005)) + 1442695040888963407)) 33) (iShr IntKind.i64 (w64 ((w64 (x0.2.2.1 * 6364136223846793005)) + 1442695040888963407)) 45)) 255), ()), ((x0.1, (x0.2.1, ((w64 ((w64 (x0.2.2.1 * 6364136223846793005)) + 1442695040888963407)), x0.2.2.2))), ())))
noncomputable def g48 (a : InDen i48) : Option (RDen o48 × BDen i48) := spec_l01Byte a.1
noncomputable def c48 : Con := mkCon i48 o48 g48
set_option maxRecDepth 100000 in
theorem e48 (y : InDen i48) : g48 y = evF ⟨tyOf tys, el, conOf []⟩ (fun _ => {}) Try.f48 i48 o48 y := by kernel_rfl
theorem h48 : c48.Holds Try.prog el 48 := holds_of hM (hT _) consOk_nil (fnOk_of (by kernel_rfl) (by kernel_rfl)) e48
abbrev i36 : List ATy := [.bx (.pr (.sl (.int .u8)) (.pr (.int .i64) (.pr (.int .i64) .un))) [false], .val (.int .i64)]
abbrev o36 : List RTy := [.val (.int .i64) []]
/-- loop.example/g00790/spec.l01Below -/
noncomputable def spec_l01Below (x0 : TL01Cur) (x1 : Int) : Option (RDen o36 × BDen i36) :=
  br ((leB x1 0))
    (some ((0, ()), (x0, ())))
    (br ((leB x1 256))
      (bnd ((spec_l01Byte x0)) fun r0 =>
        br ((eqD x1 0))
          (none)
          (some (((Int.tmod r0.1.1 x1), ()), (r0.2.1, ()))))
      (bnd ((spec_l01Byte x0)) fun r0 =>
        bnd ((spec_l01Byte r0.2.1)) fun r1 =>
          bnd ((spec_l01Byte r1.2.1)) fun r2 =>
            bnd ((spec_l01Byte r2.2.1)) fun r3 =>
              br ((eqD x1 0))
                (none)
                (some (((Int.tmod (w64 ((w64 ((w64 ((w64 (r0.1.1 * 16777216)) + (w64 (r1.1.1 * 65536)))) + (w64 (r2.1.1 * 256)))) + r3.1.1)) x1), ()), (r3.2.1, ())))))
noncomputable def g36 (a : InDen i36) : Option (RDen o36 × BDen i36) := spec_l01Below a.1 a.2.1
noncomputable def c36 : Con := mkCon i36 o36 g36
set_option maxRecDepth 100000 in
theorem e36 (y : InDen i36) : g36 y = evF ⟨tyOf tys, el, conOf [(48, c48)]⟩ (fun _ => {}) Try.f36 i36 o36 y := by kernel_rfl
theorem h36 : c36.Holds Try.prog el 36 := holds_of hM (hT _) (consOk_cons h48 consOk_nil) (fnOk_of (by kernel_rfl) (by kernel_rfl)) e36
abbrev i35 : List ATy := [.bx (.pr (.sl (.int .u8)) (.pr (.int .i64) (.pr (.int .i64) .un))) [false], .val (.sl (.int .i64))]
abbrev o35 : List RTy := [.val (.int .i64) []]
/-- loop.example/g00790/spec.l01Pick -/
noncomputable def spec_l01Pick (x0 : TL01Cur) (x1 : List Int) : Option (RDen o35 × BDen i35) :=
  bnd ((spec_l01Below x0 ((List.length x1) : Int))) fun r0 =>
    bnd ((bIdx x1 r0.1.1)) fun r1 =>
      some ((r1, ()), (r0.2.1, ()))
noncomputable def g35 (a : InDen i35) : Option (RDen o35 × BDen i35) := spec_l01Pick a.1 a.2.1
noncomputable def c35 : Con := mkCon i35 o35 g35
set_option maxRecDepth 100000 in
theorem e35 (y : InDen i35) : g35 y = evF ⟨tyOf tys, el, conOf [(36, c36)]⟩ (fun _ => {}) Try.f35 i35 o35 y := by kernel_rfl
theorem h35 : c35.Holds Try.prog el 35 := holds_of hM (hT _) (consOk_cons h36 consOk_nil) (fnOk_of (by kernel_rfl) (by kernel_rfl)) e35
abbrev i17 : List ATy := [.bx (.pr (.sl (.int .u8)) (.pr (.int .i64) (.pr (.int .i64) .un))) [false]]
abbrev o17 : List RTy := [.val (.pr (.int .i64) (.pr (.int .i64) (.pr (.int .i64) (.pr (.int .i64) (.pr (.int .i64) .un))))) []]
/-- loop.example/g00790/spec.l10Draw -/
noncomputable def spec_l10Draw (x0 : TL01Cur) : Option (RDen o17 × BDen i17) :=
  bnd ((spec_l01Pick x0 (List.set (List.set (List.set (List.set (List.set (List.set (List.set (List.replicate 7 0) 0 1) 1 3) 2 4) 3 4) 4 7) 5 9) 6 10))) fun r0 =>
    bnd ((spec_l01Pick r0.2.1 (List.set (List.set (List.set (List.set (List.replicate 4 0) 0 0) 1 4) 2 8) 3 40))) fun r1 =>
      bnd ((spec_l01Pick r1.2.1 (List.set (List.set (List.set (List.replicate 3 0) 0 0) 1 3) 2 8))) fun r2 =>
        bnd ((spec_l01Pick r2.2.1 (List.set (List.set (List.set (List.set (List.replicate 4 0) 0 4000) 1 4000) 2 300) 3 60))) fun r3 =>
          bnd ((spec_l01Below r3.2.1 3)) fun r4 =>
            some (((r0.1.1, (r1.1.1, (r2.1.1, (r3.1.1, ((w64 (3 + r4.1.1)), ()))))), ()), (r4.2.1, ()))
noncomputable def g17 (a : InDen i17) : Option (RDen o17 × BDen i17) := spec_l10Draw a.1
noncomputable def c17 : Con := mkCon i17 o17 g17
set_option maxRecDepth 100000 in
theorem e17 (y : InDen i17) : g17 y = evF ⟨tyOf tys, el, conOf [(35, c35), (36, c36)]⟩ (fun _ => {}) Try.f17 i17 o17 y := by kernel_rfl
theorem h17 : c17.Holds Try.prog el 17 := holds_of hM (hT _) (consOk_cons h35 (consOk_cons h36 consOk_nil)) (fnOk_of (by kernel_rfl) (by kernel_rfl)) e17
abbrev i4 : List ATy := [.val (.sl (.int .u8))]
abbrev o4 : List RTy := [.val (.pr (.int .i64) (.pr (.int .i64) (.pr (.int .i64) (.pr (.int .i64) (.pr (.int .i64) .un))))) []]
/-- loop.example/g00790/spec.MakeLimits -/
noncomputable def spec_MakeLimits (x0 : List UInt8) : Option (RDen o4 × BDen i4) :=
  bnd ((spec_l01New x0)) fun r0 =>
    bnd ((spec_l10Draw (r0.1.1.1, (r0.1.1.2.1, ((w64 (r0.1.1.2.2.1 + 5)), r0.1.1.2.2.2))))) fun r1 =>
      some (((r1.1.1.1, (r1.1.1.2.1, (r1.1.1.2.2.1, (4000, r1.1.1.2.2.2.2)))), ()), ())
noncomputable def g4 (a : InDen i4) : Option (RDen o4 × BDen i4) := spec_MakeLimits a.1
noncomputable def c4 : Con := mkCon i4 o4 g4
set_option maxRecDepth 100000 in
theorem e4 (y : InDen i4) : g4 y = evF ⟨tyOf tys, el, conOf [(16, c16), (17, c17)]⟩ (fun _ => {}) Try.f4 i4 o4 y := by kernel_rfl
theorem h4 : c4.Holds Try.prog el 4 := holds_of hM (hT _) (consOk_cons h16 (consOk_cons h17 consOk_nil)) (fnOk_of (by kernel_rfl) (by kernel_rfl)) e4
abbrev i38 : List ATy := [.bx (.pr (.sl (.int .u8)) (.pr (.int .i64) (.pr (.int .i64) .un))) [false], .val (.int .i64)]
abbrev o38 : List RTy := [.val (.sl (.int .u8)) [true]]
/-- loop.example/g00790/spec.l01Bytes -/
noncomputable def spec_l01Bytes (x0 : TL01Cur) (x1 : Int) : Option (RDen o38 × BDen i38) :=
  bnd ((spec_l01Below x0 (w64 (x1 + 1)))) fun r0 =>
    iter (fun y1 : (TErrorAddressString × (TL01Cur × Unit)) =>
      br ((ltB 0 y1.1.2.1))
        (bnd ((spec_l01Byte y1.2.1)) fun r2 =>
          br ((leB ((List.length y1.1.1) + (List.length (List.set (List.replicate 1 (UInt8.ofNat (Int.toNat 0))) 0 (UInt8.ofNat (Int.toNat (w8 r2.1.1)))))) most))
            (some (.inl (((y1.1.1 ++ (List.set (List.replicate 1 (UInt8.ofNat (Int.toNat 0))) 0 (UInt8.ofNat (Int.toNat (w8 r2.1.1))))), ((w64 (y1.1.2.1 - 1)), ())), (r2.2.1, ()))))
            none)
        (some (.inr ((y1.1.1, ()), (y1.2.1, ())))))
      (((List.replicate 0 (UInt8.ofNat (Int.toNat 0))), (r0.1.1, ())), (r0.2.1, ()))
noncomputable def g38 (a : InDen i38) : Option (RDen o38 × BDen i38) := spec_l01Bytes a.1 a.2.1
noncomputable def c38 : Con := mkCon i38 o38 g38
set_option maxRecDepth 100000 in
theorem e38 (y : InDen i38) : g38 y = evF ⟨tyOf tys, el, conOf [(36, c36), (48, c48)]⟩ (fun _ => {}) Try.f38 i38 o38 y := by kernel_rfl
theorem h38 : c38.Holds Try.prog el 38 := holds_of hM (hT _) (consOk_cons h36 (consOk_cons h48 consOk_nil)) (fnOk_of (by kernel_rfl) (by kernel_rfl)) e38
abbrev i37 : List ATy := [.bx (.pr (.sl (.int .u8)) (.pr (.int .i64) (.pr (.int .i64) .un))) [false], .val (.int .i64)]
abbrev o37 : List RTy := [.val (.sl (.sl (.int .u8))) [true]]
/-- loop.example/g00790/spec.l06List -/
noncomputable def spec_l06List (x0 : TL01Cur) (x1 : Int) : Option (RDen o37 × BDen i37) :=
  bnd ((spec_l01Below x0 (w64 (x1 + 1)))) fun r0 =>
    iter (fun y1 : ((List (List UInt8) × (Int × Unit)) × (TL01Cur × Unit)) =>
      br ((ltB 0 y1.1.2.1))
        (bnd ((spec_l01Bytes y1.2.1 4)) fun r2 =>
          br ((leB ((List.length y1.1.1) + (List.length (List.set (List.replicate 1 List.nil) 0 r2.1.1))) most))
            (some (.inl (((y1.1.1 ++ (List.set (List.replicate 1 List.nil) 0 r2.1.1)), ((w64 (y1.1.2.1 - 1)), ())), (r2.2.1, ()))))
            none)
        (some (.inr ((y1.1.1, ()), (y1.2.1, ())))))
      (((List.replicate 0 List.nil), (r0.1.1, ())), (r0.2.1, ()))
noncomputable def g37 (a : InDen i37) : Option (RDen o37 × BDen i37) := spec_l06List a.1 a.2.1
noncomputable def c37 : Con := mkCon i37 o37 g37
set_option maxRecDepth 100000 in
theorem e37 (y : InDen i37) : g37 y = evF ⟨tyOf tys, el, conOf [(36, c36), (38, c38)]⟩ (fun _ => {}) Try.f37 i37 o37 y := by kernel_rfl
theorem h37 : c37.Holds Try.prog el 37 := holds_of hM (hT _) (consOk_cons h36 (consOk_cons h38 consOk_nil)) (fnOk_of (by kernel_rfl) (by kernel_rfl)) e37
abbrev i18 : List ATy := [.bx (.pr (.sl (.int .u8)) (.pr (.int .i64) (.pr (.int .i64) .un))) [false]]
abbrev o18 : List RTy := [.val (.sl (.sl (.int .u8))) [true], .val (.int .i64) []]
/-- loop.example/g00790/spec.l08List -/
noncomputable def spec_l08List (x0 : TL01Cur) : Option (RDen o18 × BDen i18) :=
  bnd ((spec_l06List x0 8)) fun r0 =>
    bnd ((spec_l01Bytes r0.2.1 3)) fun r1 =>
      br ((leB ((List.length r0.1.1) + (List.length (List.set (List.replicate 1 List.nil) 0 r1.1.1))) most))
        (bnd ((spec_l01Below r1.2.1 ((List.length (r0.1.1 ++ (List.set (List.replicate 1 List.nil) 0 r1.1.1))) : Int))) fun r2 =>
          some (((r0.1.1 ++ (List.set (List.replicate 1 List.nil) 0 r1.1.1)), (r2.1.1, ())), (r2.2.1, ())))
        none
noncomputable def g18 (a : InDen i18) : Option (RDen o18 × BDen i18) := spec_l08List a.1
noncomputable def c18 : Con := mkCon i18 o18 g18
set_option maxRecDepth 100000 in
theorem e18 (y : InDen i18) : g18 y = evF ⟨tyOf tys, el, conOf [(37, c37), (38, c38), (36, c36)]⟩ (fun _ => {}) Try.f18 i18 o18 y := by kernel_rfl
theorem h18 : c18.Holds Try.prog el 18 := holds_of hM (hT _) (consOk_cons h37 (consOk_cons h38 (consOk_cons h36 consOk_nil))) (fnOk_of (by kernel_rfl) (by kernel_rfl)) e18
abbrev i5 : List ATy := [.val (.sl (.int .u8))]
abbrev o5 : List RTy := [.val (.sl (.sl (.int .u8))) [true]]
/-- loop.example/g00790/spec.MakeList -/
noncomputable def spec_MakeList (x0 : List UInt8) : Option (RDen o5 × BDen i5) :=
  bnd ((spec_l01New x0)) fun r0 =>
    bnd ((spec_l08List r0.1.1)) fun r1 =>
      some ((r1.1.1, ()), ())
noncomputable def g5 (a : InDen i5) : Option (RDen o5 × BDen i5) := spec_MakeList a.1
noncomputable def c5 : Con := mkCon i5 o5 g5
set_option maxRecDepth 100000 in
theorem e5 (y : InDen i5) : g5 y = evF ⟨tyOf tys, el, conOf [(16, c16), (18, c18)]⟩ (fun _ => {}) Try.f5 i5 o5 y := by kernel_rfl
theorem h5 : c5.Holds Try.prog el 5 := holds_of hM (hT _) (consOk_cons h16 (consOk_cons h18 consOk_nil)) (fnOk_of (by kernel_rfl) (by kernel_rfl)) e5
abbrev i39 : List ATy := [.bx (.pr (.sl (.int .u8)) (.pr (.int .i64) (.pr (.int .i64) .un))) [false], .val (.int .i64)]
abbrev o39 : List RTy := [.val (.pr (.sl (.pr (.int .i64) (.pr (.sl (.int .u8)) .un))) .un) [true]]
/-- loop.example/g00790/spec.l21Draw -/
noncomputable def spec_l21Draw (x0 : TL01Cur) (x1 : Int) : Option (RDen o39 × BDen i39) :=
  iter (fun y0 : ((Int × (Int × Unit)) × (TL01Cur × ((List (TRow) × Unit) × ((List (TRow) × Unit) × Unit)))) =>
    br ((ltB y0.1.2.1 y0.1.1))
      (bnd ((spec_l01Below y0.2.1 9)) fun r1 =>
        bnd ((spec_l01Pick r1.2.1 (List.set (List.set (List.set (List.set (List.set (List.set (List.set (List.replicate 7 0) 0 1) 1 1) 2 1) 3 2) 4 5) 5 1099511627776) 6 (w64 (1 + r1.1.1))))) fun r2 =>
          bnd ((spec_l01Below r2.2.1 9)) fun r3 =>
            br ((leB ((List.length y0.2.2.2.1.1) + (List.length (List.set (List.replicate 1 (0, (List.nil, ()))) 0 (r2.1.1, ((List.set (List.set (List.set (List.replicate 3 (UInt8.ofNat (Int.toNat 0))) 0 (UInt8.ofNat (Int.toNat (w8 y0.1.2.1)))) 1 (UInt8.ofNat (Int.toNat (w8 r3.1.1)))) 2 (UInt8.ofNat (Int.toNat 1))), ()))))) most))
              (some (.inl ((y0.1.1, ((w64 (y0.1.2.1 + 1)), ())), (r3.2.1, (y0.2.2.1, (((y0.2.2.2.1.1 ++ (List.set (List.replicate 1 (0, (List.nil, ()))) 0 (r2.1.1, ((List.set (List.set (List.set (List.replicate 3 (UInt8.ofNat (Int.toNat 0))) 0 (UInt8.ofNat (Int.toNat (w8 y0.1.2.1)))) 1 (UInt8.ofNat (Int.toNat (w8 r3.1.1)))) 2 (UInt8.ofNat (Int.toNat 1))), ())))), y0.2.2.2.1.2), ()))))))
              none)
      (some (.inr ((y0.2.2.2.1, ()), (y0.2.1, ())))))
    ((x1, (0, ())), (x0, ((List.nil, ()), ((List.nil, ()), ()))))
noncomputable def g39 (a : InDen i39) : Option (RDen o39 × BDen i39) := spec_l21Draw a.1 a.2.1
noncomputable def c39 : Con := mkCon i39 o39 g39
set_option maxRecDepth 100000 in
theorem e39 (y : InDen i39) : g39 y = evF ⟨tyOf tys, el, conOf [(36, c36), (35, c35)]⟩ (fun _ => {}) Try.f39 i39 o39 y := by kernel_rfl
theorem h39 : c39.Holds Try.prog el 39 := holds_of hM (hT _) (consOk_cons h36 (consOk_cons h35 consOk_nil)) (fnOk_of (by kernel_rfl) (by kernel_rfl)) e39
abbrev i19 : List ATy := [.bx (.pr (.sl (.int .u8)) (.pr (.int .i64) (.pr (.int .i64) .un))) [false]]
abbrev o19 : List RTy := [.val (.pr (.int .i64) (.pr (.int .i64) (.pr (.int .i64) (.pr (.int .i64) (.pr (.int .i64) .un))))) [], .val (.pr (.sl (.pr (.int .i64) (.pr (.sl (.int .u8)) .un))) .un) [true]]
/-- loop.example/g00790/spec.l23Pair -/
noncomputable def spec_l23Pair (x0 : TL01Cur) : Option (RDen o19 × BDen i19) :=
  bnd ((spec_l10Draw x0)) fun r0 =>
    bnd ((spec_l01Below r0.2.1 5)) fun r1 =>
      bnd ((spec_l21Draw r1.2.1 (w64 (1 + r1.1.1)))) fun r2 =>
        some ((((w64 (1 + r1.1.1)), (r0.1.1.2.1, (r0.1.1.2.2.1, (4000, r0.1.1.2.2.2.2)))), (r2.1.1, ())), (r2.2.1, ()))
noncomputable def g19 (a : InDen i19) : Option (RDen o19 × BDen i19) := spec_l23Pair a.1
noncomputable def c19 : Con := mkCon i19 o19 g19
set_option maxRecDepth 100000 in
theorem e19 (y : InDen i19) : g19 y = evF ⟨tyOf tys, el, conOf [(17, c17), (36, c36), (39, c39)]⟩ (fun _ => {}) Try.f19 i19 o19 y := by kernel_rfl
theorem h19 : c19.Holds Try.prog el 19 := holds_of hM (hT _) (consOk_cons h17 (consOk_cons h36 (consOk_cons h39 consOk_nil))) (fnOk_of (by kernel_rfl) (by kernel_rfl)) e19
abbrev i6 : List ATy := [.val (.sl (.int .u8))]
abbrev o6 : List RTy := [.val (.pr (.int .i64) (.pr (.int .i64) (.pr (.int .i64) (.pr (.int .i64) (.pr (.int .i64) .un))))) [], .val (.pr (.sl (.pr (.int .i64) (.pr (.sl (.int .u8)) .un))) .un) [true]]
/-- loop.example/g00790/spec.MakeTable -/
noncomputable def spec_MakeTable (x0 : List UInt8) : Option (RDen o6 × BDen i6) :=
  bnd ((spec_l01New x0)) fun r0 =>
    bnd ((spec_l23Pair r0.1.1)) fun r1 =>
      some ((r1.1.1, (r1.1.2.1, ())), ())
noncomputable def g6 (a : InDen i6) : Option (RDen o6 × BDen i6) := spec_MakeTable a.1
noncomputable def c6 : Con := mkCon i6 o6 g6
set_option maxRecDepth 100000 in
theorem e6 (y : InDen i6) : g6 y = evF ⟨tyOf tys, el, conOf [(16, c16), (19, c19)]⟩ (fun _ => {}) Try.f6 i6 o6 y := by kernel_rfl
theorem h6 : c6.Holds Try.prog el 6 := holds_of hM (hT _) (consOk_cons h16 (consOk_cons h19 consOk_nil)) (fnOk_of (by kernel_rfl) (by kernel_rfl)) e6
abbrev i24 : List ATy := [.bx (.pr (.sl (.int .u8)) (.pr (.int .i64) (.pr (.int .i64) .un))) [false]]
abbrev o24 : List RTy := [.val (.sl (.int .u8)) [true]]
/-- loop.example/g00790/spec.l11Hash -/
noncomputable def spec_l11Hash (x0 : TL01Cur) : Option (RDen o24 × BDen i24) :=
  bnd ((spec_l01Below x0 3)) fun r0 =>
    bnd ((bIdx (List.replicate (Int.toNat 32) (UInt8.ofNat (Int.toNat 0))) 0)) fun r1 =>
      bnd ((spec_l01Byte (r0.2.1.1, (r0.2.1.2.1, (r0.2.1.2.2.1, r0.2.1.2.2.2))))) fun r2 =>
        bnd ((bIdx (List.set (List.replicate (Int.toNat 32) (UInt8.ofNat (Int.toNat 0))) (Int.toNat 0) (UInt8.ofNat (Int.toNat (w8 r0.1.1)))) 31)) fun r3 =>
          some (((List.set (List.set (List.replicate (Int.toNat 32) (UInt8.ofNat (Int.toNat 0))) (Int.toNat 0) (UInt8.ofNat (Int.toNat (w8 r0.1.1)))) (Int.toNat 31) (UInt8.ofNat (Int.toNat (w8 r2.1.1)))), ()), ((r2.2.1.1, (r2.2.1.2.1, (r2.2.1.2.2.1, r2.2.1.2.2.2))), ()))
noncomputable def g24 (a : InDen i24) : Option (RDen o24 × BDen i24) := spec_l11Hash a.1
noncomputable def c24 : Con := mkCon i24 o24 g24
set_option maxRecDepth 100000 in
theorem e24 (y : InDen i24) : g24 y = evF ⟨tyOf tys, el, conOf [(36, c36), (48, c48)]⟩ (fun _ => {}) Try.f24 i24 o24 y := by kernel_rfl
theorem h24 : c24.Holds Try.prog el 24 := holds_of hM (hT _) (consOk_cons h36 (consOk_cons h48 consOk_nil)) (fnOk_of (by kernel_rfl) (by kernel_rfl)) e24
abbrev i8 : List ATy := [.val (.sl (.int .u8)), .val (.int .i64)]
abbrev o8 : List RTy := [.val (.sl (.int .u8)) [true]]
/-- loop.example/g00790/spec.MakeHash -/
noncomputable def spec_MakeHash (x0 : List UInt8) (x1 : Int) : Option (RDen o8 × BDen i8) :=
  bnd ((spec_l01New x0)) fun r0 =>
    bnd ((spec_l11Hash (r0.1.1.1, (r0.1.1.2.1, ((w64 (r0.1.1.2.2.1 + x1)), r0.1.1.2.2.2))))) fun r1 =>
      bnd ((bIdx r1.1.1 7)) fun r2 =>
        some (((List.set r1.1.1 (Int.toNat 7) (UInt8.ofNat (Int.toNat (w8 x1)))), ()), ())
noncomputable def g8 (a : InDen i8) : Option (RDen o8 × BDen i8) := spec_MakeHash a.1 a.2.1
noncomputable def c8 : Con := mkCon i8 o8 g8
set_option maxRecDepth 100000 in
theorem e8 (y : InDen i8) : g8 y = evF ⟨tyOf tys, el, conOf [(16, c16), (24, c24)]⟩ (fun _ => {}) Try.f8 i8 o8 y := by kernel_rfl
theorem h8 : c8.Holds Try.prog el 8 := holds_of hM (hT _) (consOk_cons h16 (consOk_cons h24 consOk_nil)) (fnOk_of (by kernel_rfl) (by kernel_rfl)) e8
abbrev i20 : List ATy := [.val (.sl (.int .u8))]
abbrev o20 : List RTy := [.val (.sl (.int .u8)) [true]]
/-- loop.example/g00790/impl.copyBytes -/
noncomputable def impl_copyBytes (x0 : List UInt8) : Option (RDen o20 × BDen i20) :=
  br ((leB ((List.length (List.replicate 0 (UInt8.ofNat (Int.toNat 0)))) + (List.length x0)) most))
    (some ((((List.replicate 0 (UInt8.ofNat (Int.toNat 0))) ++ x0), ()), ()))
    none
noncomputable def g20 (a : InDen i20) : Option (RDen o20 × BDen i20) := impl_copyBytes a.1
noncomputable def c20 : Con := mkCon i20 o20 g20
set_option maxRecDepth 100000 in
theorem e20 (y : InDen i20) : g20 y = evF ⟨tyOf tys, el, conOf []⟩ (fun _ => {}) Try.f20 i20 o20 y := by kernel_rfl
theorem h20 : c20.Holds Try.prog el 20 := holds_of hM (hT _) consOk_nil (fnOk_of (by kernel_rfl) (by kernel_rfl)) e20
abbrev i40 : List ATy := [.val (.int .i64), .val (.int .i64), .val (.int .i64)]
abbrev o40 : List RTy := [.val .bool []]
/-- loop.example/g00790/impl.within -/
noncomputable def impl_within (x0 : Int) (x1 : Int) (x2 : Int) : Option (RDen o40 × BDen i40) :=
  br ((leB x1 x0))
    (some (((leB x0 x2), ()), ()))
    (some ((Bool.false, ()), ()))
noncomputable def g40 (a : InDen i40) : Option (RDen o40 × BDen i40) := impl_within a.1 a.2.1 a.2.2.1
noncomputable def c40 : Con := mkCon i40 o40 g40
set_option maxRecDepth 100000 in
theorem e40 (y : InDen i40) : g40 y = evF ⟨tyOf tys, el, conOf []⟩ (fun _ => {}) Try.f40 i40 o40 y := by kernel_rfl
theorem h40 : c40.Holds Try.prog el 40 := holds_of hM (hT _) consOk_nil (fnOk_of (by kernel_rfl) (by kernel_rfl)) e40
abbrev i41 : List ATy := [.val (.int .i64)]
abbrev o41 : List RTy := [.val (.int .i64) []]
/-- loop.example/g00790/impl.BitsSize -/
noncomputable def impl_BitsSize (x0 : Int) : Option (RDen o41 × BDen i41) :=
  br ((ltB x0 1))
    (some ((0, ()), ()))
    (some (((w64 ((w64 (Int.tdiv (w64 (x0 - 1)) 8)) + 1)), ()), ()))
noncomputable def g41 (a : InDen i41) : Option (RDen o41 × BDen i41) := impl_BitsSize a.1
noncomputable def c41 : Con := mkCon i41 o41 g41
set_option maxRecDepth 100000 in
theorem e41 (y : InDen i41) : g41 y = evF ⟨tyOf tys, el, conOf []⟩ (fun _ => {}) Try.f41 i41 o41 y := by kernel_rfl
theorem h41 : c41.Holds Try.prog el 41 := holds_of hM (hT _) consOk_nil (fnOk_of (by kernel_rfl) (by kernel_rfl)) e41
abbrev i21 : List ATy := [.val (.int .i64)]
abbrev o21 : List RTy := [.val (.sl (.int .u8)) [true]]
/-- loop.example/g00790/impl.BitsNew -/
noncomputable def impl_BitsNew (x0 : Int) : Option (RDen o21 × BDen i21) :=
  bnd ((impl_within x0 1 10)) fun r0 =>
    br ((Bool.not r0.1.1))
      (some ((List.nil, ()), ()))
      (bnd ((impl_BitsSize x0)) fun r1 =>
        br ((leB 0 r1.1.1))
          (br ((leB r1.1.1 r1.1.1))
            (br ((leB r1.1.1 (most : Int)))
              (some (((List.replicate (Int.toNat r1.1.1) (UInt8.ofNat (Int.toNat 0))), ()), ()))
              (none))
            (none))
          (none))
noncomputable def g21 (a : InDen i21) : Option (RDen o21 × BDen i21) := impl_BitsNew a.1
noncomputable def c21 : Con := mkCon i21 o21 g21
set_option maxRecDepth 100000 in
theorem e21 (y : InDen i21) : g21 y = evF ⟨tyOf tys, el, conOf [(40, c40), (41, c41)]⟩ (fun _ => {}) Try.f21 i21 o21 y := by kernel_rfl
theorem h21 : c21.Holds Try.prog el 21 := holds_of hM (hT _) (consOk_cons h40 (consOk_cons h41 consOk_nil)) (fnOk_of (by kernel_rfl) (by kernel_rfl)) e21
abbrev i42 : List ATy := [.val (.pr (.int .i64) (.pr (.int .i64) (.pr (.int .i64) (.pr (.int .i64) (.pr (.int .i64) .un)))))]
abbrev o42 : List RTy := [.val .bool []]
/-- loop.example/g00790/impl.LimitsOk -/
noncomputable def impl_LimitsOk (x0 : TLimits) : Option (RDen o42 × BDen i42) :=
  bnd ((impl_within x0.1 1 10)) fun r0 =>
    br (r0.1.1)
      (bnd ((impl_within x0.2.1 0 40)) fun r1 =>
        br (r1.1.1)
          (bnd ((impl_within x0.2.2.1 0 8)) fun r2 =>
            br (r2.1.1)
              (bnd ((impl_within x0.2.2.2.1 1 4000)) fun r3 =>
                br (r3.1.1)
                  (bnd ((impl_within x0.2.2.2.2.1 3 5)) fun r4 =>
                    some ((r4.1.1, ()), ()))
                  (some ((Bool.false, ()), ())))
              (some ((Bool.false, ()), ())))
          (some ((Bool.false, ()), ())))
      (some ((Bool.false, ()), ()))
noncomputable def g42 (a : InDen i42) : Option (RDen o42 × BDen i42) := impl_LimitsOk a.1
noncomputable def c42 : Con := mkCon i42 o42 g42
set_option maxRecDepth 100000 in
theorem e42 (y : InDen i42) : g42 y = evF ⟨tyOf tys, el, conOf [(40, c40)]⟩ (fun _ => {}) Try.f42 i42 o42 y := by kernel_rfl
theorem h42 : c42.Holds Try.prog el 42 := holds_of hM (hT _) (consOk_cons h40 consOk_nil) (fnOk_of (by kernel_rfl) (by kernel_rfl)) e42
abbrev i43 : List ATy := [.val (.pr (.sl (.pr (.int .i64) (.pr (.sl (.int .u8)) .un))) .un)]
abbrev o43 : List RTy := [.val .bool []]
/-- loop.example/g00790/impl.TableOk -/
noncomputable def impl_TableOk (x0 : TTable) : Option (RDen o43 × BDen i43) :=
  iter (fun y0 : ((Bool × (List (TRow) × (Int × (Int × Unit)))) × ((List (TRow) × Unit) × Unit)) =>
    br ((ltB y0.1.2.2.2.1 y0.1.2.2.1))
      (bnd ((bIdx y0.1.2.1 y0.1.2.2.2.1)) fun r1 =>
        bnd ((impl_within r1.1 1 1099511627776)) fun r2 =>
          br ((Bool.not r2.1.1))
            (some (.inr ((Bool.false, ()), ())))
            (bnd ((impl_within ((List.length r1.2.1) : Int) 1 64)) fun r3 =>
              br ((Bool.not r3.1.1))
                (some (.inr ((Bool.false, ()), ())))
                (some (.inl ((y0.1.1, (y0.1.2.1, (y0.1.2.2.1, ((w64 (y0.1.2.2.2.1 + 1)), ())))), (y0.2.1, ()))))))
      (bnd ((impl_within ((List.length y0.2.1.1) : Int) 1 10)) fun r1 =>
        some (.inr ((r1.1.1, ()), ()))))
    ((Bool.false, (x0.1, (((List.length x0.1) : Int), (0, ())))), (x0, ()))
noncomputable def g43 (a : InDen i43) : Option (RDen o43 × BDen i43) := impl_TableOk a.1
noncomputable def c43 : Con := mkCon i43 o43 g43
set_option maxRecDepth 100000 in
theorem e43 (y : InDen i43) : g43 y = evF ⟨tyOf tys, el, conOf [(40, c40)]⟩ (fun _ => {}) Try.f43 i43 o43 y := by kernel_rfl
theorem h43 : c43.Holds Try.prog el 43 := holds_of hM (hT _) (consOk_cons h40 consOk_nil) (fnOk_of (by kernel_rfl) (by kernel_rfl)) e43
abbrev i22 : List ATy := [.val (.pr (.int .i64) (.pr (.int .i64) (.pr (.int .i64) (.pr (.int .i64) (.pr (.int .i64) .un))))), .val (.pr (.sl (.pr (.int .i64) (.pr (.sl (.int .u8)) .un))) .un)]
abbrev o22 : List RTy := [.val .bool []]
/-- loop.example/g00790/impl.belongs -/
noncomputable def impl_belongs (x0 : TLimits) (x1 : TTable) : Option (RDen o22 × BDen i22) :=
  bnd ((impl_LimitsOk x0)) fun r0 =>
    br (r0.1.1)
      (bnd ((impl_TableOk x1)) fun r1 =>
        br (r1.1.1)
          (some (((((List.length x1.1) : Int) == x0.1), ()), ()))
          (some ((Bool.false, ()), ())))
      (some ((Bool.false, ()), ()))
noncomputable def g22 (a : InDen i22) : Option (RDen o22 × BDen i22) := impl_belongs a.1 a.2.1
noncomputable def c22 : Con := mkCon i22 o22 g22
set_option maxRecDepth 100000 in
theorem e22 (y : InDen i22) : g22 y = evF ⟨tyOf tys, el, conOf [(42, c42), (43, c43)]⟩ (fun _ => {}) Try.f22 i22 o22 y := by kernel_rfl
theorem h22 : c22.Holds Try.prog el 22 := holds_of hM (hT _) (consOk_cons h42 (consOk_cons h43 consOk_nil)) (fnOk_of (by kernel_rfl) (by kernel_rfl)) e22
abbrev i45 : List ATy := [.val (.int .i64)]
abbrev o45 : List RTy := [.val .bool []]
/-- loop.example/g00790/impl.isNum -/
noncomputable def impl_isNum (x0 : Int) : Option (RDen o45 × BDen i45) :=
  bnd ((impl_within x0 0 1152921504606846975)) fun r0 =>
    some ((r0.1.1, ()), ())
noncomputable def g45 (a : InDen i45) : Option (RDen o45 × BDen i45) := impl_isNum a.1
noncomputable def c45 : Con := mkCon i45 o45 g45
set_option maxRecDepth 100000 in
theorem e45 (y : InDen i45) : g45 y = evF ⟨tyOf tys, el, conOf [(40, c40)]⟩ (fun _ => {}) Try.f45 i45 o45 y := by kernel_rfl
theorem h45 : c45.Holds Try.prog el 45 := holds_of hM (hT _) (consOk_cons h40 consOk_nil) (fnOk_of (by kernel_rfl) (by kernel_rfl)) e45
abbrev i46 : List ATy := [.val (.sl (.sl (.int .u8)))]
abbrev o46 : List RTy := [.val .bool []]
/-- loop.example/g00790/impl.areHashes -/
noncomputable def impl_areHashes (x0 : List (List UInt8)) : Option (RDen o46 × BDen i46) :=
  iter (fun y0 : ((Bool × (List (List UInt8) × (Int × (Int × Unit)))) × Unit) =>
    br ((ltB y0.1.2.2.2.1 y0.1.2.2.1))
      (bnd ((bIdx y0.1.2.1 y0.1.2.2.2.1)) fun r1 =>
        br ((((List.length r1) : Int) != 32))
          (some (.inr ((Bool.false, ()), ())))
          (some (.inl ((y0.1.1, (y0.1.2.1, (y0.1.2.2.1, ((w64 (y0.1.2.2.2.1 + 1)), ())))), ()))))
      (some (.inr ((Bool.true, ()), ()))))
    ((Bool.false, (x0, (((List.length x0) : Int), (0, ())))), ())
noncomputable def g46 (a : InDen i46) : Option (RDen o46 × BDen i46) := impl_areHashes a.1
noncomputable def c46 : Con := mkCon i46 o46 g46
set_option maxRecDepth 100000 in
theorem e46 (y : InDen i46) : g46 y = evF ⟨tyOf tys, el, conOf []⟩ (fun _ => {}) Try.f46 i46 o46 y := by kernel_rfl
theorem h46 : c46.Holds Try.prog el 46 := holds_of hM (hT _) consOk_nil (fnOk_of (by kernel_rfl) (by kernel_rfl)) e46
abbrev i63 : List ATy := [.val (.sl (.int .u8)), .val (.int .i64)]
abbrev o63 : List RTy := [.val .bool []]
/-- loop.example/g00790/impl.BitsHas -/
noncomputable def impl_BitsHas (x0 : List UInt8) (x1 : Int) : Option (RDen o63 × BDen i63) :=
  bnd ((impl_within x1 0 (w64 ((w64 (8 * ((List.length x0) : Int))) - 1)))) fun r0 =>
    br (r0.1.1)
      (bnd ((bIdx x0 (w64 (Int.tdiv x1 8)))) fun r1 =>
        br ((ltB (Int.tmod x1 8) 0))
          (none)
          (some (((((UInt8.toNat (UInt8.ofNat (Int.toNat (iAnd IntKind.u8 ((UInt8.toNat (UInt8.ofNat (Int.toNat (iShr IntKind.u8 ((UInt8.toNat r1) : Int) (Int.tmod x1 8))))) : Int) ((UInt8.toNat (UInt8.ofNat (Int.toNat 1))) : Int))))) : Int) == ((UInt8.toNat (UInt8.ofNat (Int.toNat 1))) : Int)), ()), ())))
      (some ((Bool.false, ()), ()))
noncomputable def g63 (a : InDen i63) : Option (RDen o63 × BDen i63) := impl_BitsHas a.1 a.2.1
noncomputable def c63 : Con := mkCon i63 o63 g63
set_option maxRecDepth 100000 in
theorem e63 (y : InDen i63) : g63 y = evF ⟨tyOf tys, el, conOf [(40, c40)]⟩ (fun _ => {}) Try.f63 i63 o63 y := by kernel_rfl
theorem h63 : c63.Holds Try.prog el 63 := holds_of hM (hT _) (consOk_cons h40 consOk_nil) (fnOk_of (by kernel_rfl) (by kernel_rfl)) e63
abbrev i61 : List ATy := [.val (.sl (.int .u8))]
abbrev o61 : List RTy := [.val (.sl (.int .i64)) [true]]
/-- loop.example/g00790/impl.BitsList -/
noncomputable def impl_BitsList (x0 : List UInt8) : Option (RDen o61 × BDen i61) :=
  iter (fun y0 : ((List UInt8 × (List Int × (Int × (Int × Unit)))) × Unit) =>
    br ((ltB y0.1.2.2.2.1 y0.1.2.2.1))
      (bnd ((impl_BitsHas y0.1.1 y0.1.2.2.2.1)) fun r1 =>
        br (r1.1.1)
          (br ((leB ((List.length y0.1.2.1) + (List.length (List.set (List.replicate 1 0) 0 y0.1.2.2.2.1))) most))
            (some (.inl ((y0.1.1, ((y0.1.2.1 ++ (List.set (List.replicate 1 0) 0 y0.1.2.2.2.1)), (y0.1.2.2.1, ((w64 (y0.1.2.2.2.1 + 1)), ())))), ())))
            none)
          (some (.inl ((y0.1.1, (y0.1.2.1, (y0.1.2.2.1, ((w64 (y0.1.2.2.2.1 + 1)), ())))), ()))))
      (some (.inr ((y0.1.2.1, ()), ()))))
    ((x0, ((List.replicate 0 0), ((w64 (8 * ((List.length x0) : Int))), (0, ())))), ())
noncomputable def g61 (a : InDen i61) : Option (RDen o61 × BDen i61) := impl_BitsList a.1
noncomputable def c61 : Con := mkCon i61 o61 g61
set_option maxRecDepth 100000 in
theorem e61 (y : InDen i61) : g61 y = evF ⟨tyOf tys, el, conOf [(63, c63)]⟩ (fun _ => {}) Try.f61 i61 o61 y := by kernel_rfl
theorem h61 : c61.Holds Try.prog el 61 := holds_of hM (hT _) (consOk_cons h63 consOk_nil) (fnOk_of (by kernel_rfl) (by kernel_rfl)) e61
abbrev i56 : List ATy := [.val (.sl (.int .u8)), .val (.int .i64)]
abbrev o56 : List RTy := [.val .bool []]
/-- loop.example/g00790/impl.BitsOk -/
noncomputable def impl_BitsOk (x0 : List UInt8) (x1 : Int) : Option (RDen o56 × BDen i56) :=
  bnd ((impl_within x1 1 10)) fun r0 =>
    br ((Bool.not r0.1.1))
      (some ((Bool.false, ()), ()))
      (bnd ((impl_BitsSize x1)) fun r1 =>
        br ((((List.length x0) : Int) != r1.1.1))
          (some ((Bool.false, ()), ()))
          (bnd ((impl_BitsList x0)) fun r2 =>
            iter (fun y3 : ((Int × (Bool × (List Int × (Int × (Int × Unit))))) × Unit) =>
              br ((ltB y3.1.2.2.2.2.1 y3.1.2.2.2.1))
                (bnd ((bIdx y3.1.2.2.1 y3.1.2.2.2.2.1)) fun r4 =>
                  br ((leB y3.1.1 r4))
                    (some (.inr ((Bool.false, ()), ())))
                    (some (.inl ((y3.1.1, (y3.1.2.1, (y3.1.2.2.1, (y3.1.2.2.2.1, ((w64 (y3.1.2.2.2.2.1 + 1)), ()))))), ()))))
                (some (.inr ((Bool.true, ()), ()))))
              ((x1, (Bool.false, (r2.1.1, (((List.length r2.1.1) : Int), (0, ()))))), ())))
noncomputable def g56 (a : InDen i56) : Option (RDen o56 × BDen i56) := impl_BitsOk a.1 a.2.1
noncomputable def c56 : Con := mkCon i56 o56 g56
set_option maxRecDepth 100000 in
theorem e56 (y : InDen i56) : g56 y = evF ⟨tyOf tys, el, conOf [(40, c40), (41, c41), (61, c61)]⟩ (fun _ => {}) Try.f56 i56 o56 y := by kernel_rfl
theorem h56 : c56.Holds Try.prog el 56 := holds_of hM (hT _) (consOk_cons h40 (consOk_cons h41 (consOk_cons h61 consOk_nil))) (fnOk_of (by kernel_rfl) (by kernel_rfl)) e56
abbrev i62 : List ATy := [.val (.int .u8)]
abbrev o62 : List RTy := [.val (.int .i64) []]
/-- math/bits.OnesCount8 -/
noncomputable def bits_OnesCount8 (x0 : UInt8) : Option (RDen o62 × BDen i62) :=
  bnd ((bIdx (Array.toList (ByteArray.data (ByteArray.mk (List.toArray (List.append (List.append (List.cons 0 (List.cons 1 (List.cons 1 (List.cons 2 (List.cons 1 (List.cons 2 (List.cons 2 (List.cons 3 (List.cons 1 (List.cons 2 (List.cons 2 (List.cons 3 (List.cons 2 (List.cons 3 (List.cons 3 (List.cons 4 (List.cons 1 (List.cons 2 (List.cons 2 (List.cons 3 (List.cons 2 (List.cons 3 (List.cons 3 (List.cons 4 (List.cons 2 (List.cons 3 (List.cons 3 (List.cons 4 (List.cons 3 (List.cons 4 (List.cons 4 (List.cons 5 (List.cons 1 (List.cons 2 (List.cons 2 (List.cons 3 (List.cons 2 (List.cons 3 (List.cons 3 (List.cons 4 (List.cons 2 (List.cons 3 (List.cons 3 (List.cons 4 (List.cons 3 (List.cons 4 (List.cons 4 (List.cons 5 (List.cons 2 (List.cons 3 (List.cons 3 (List.cons 4 (List.cons 3 (List.cons 4 (List.cons 4 (List.cons 5 (List.cons 3 (List.cons 4 (List.cons 4 (List.cons 5 (List.cons 4 (List.cons 5 (List.cons 5 (List.cons 6 List.nil)))))))))))))))))))))))))))))))))))))))))))))))))))))))))))))))) (List.cons 1 (List.cons 2 (List.cons 2 (List.cons 3 (List.cons 2 (List.cons 3 (List.cons 3 (List.cons 4 (List.cons 2 (List.cons 3 (List.cons 3 (List.cons 4 (List.cons 3 (List.cons 4 (List.cons 4 (List.cons 5 (List.cons 2 (List.cons 3 (List.cons 3 (List.cons 4 (List.cons 3 (List.cons 4 (List.cons 4 (List.cons 5 (List.cons 3 (List.cons 4 (List.cons 4 (List.cons 5 (List.cons 4 (List.cons 5 (List.cons 5 (List.cons 6 (List.cons 2 (List.cons 3 (List.cons 3 (List.cons 4 (List.cons 3 (List.cons 4 (List.cons 4 (List.cons 5 (List.cons 3 (List.cons 4 (List.cons 4 (List.cons 5 (List.cons 4 (List.cons 5 (List.cons 5 (List.cons 6 (List.cons 3 (List.cons 4 (List.cons 4 (List.cons 5 (List.cons 4 (List.cons 5 (List.cons 5 (List.cons 6 (List.cons 4 (List.cons 5 (List.cons 5 (List.cons 6 (List.cons 5 (List.cons 6 (List.cons 6 (List.cons 7 List.nil))))))))))))))))))))))))))))))))))))))))))))))))))))))))))))))))) (List.append (List.cons 1 (List.cons 2 (List.cons 2 (List.cons 3 (List.cons 2 (List.cons 3 (List.cons 3 (List.cons 4 (List.cons 2 (List.cons 3 (List.cons 3 (List.cons 4 (List.cons 3 (List.cons 4 (List.cons 4 (List.cons 5 (List.cons 2 (List.cons 3 (List.cons 3 (List.cons 4 (List.cons 3 (List.cons 4 (List.cons 4 (List.cons 5 (List.cons 3 (List.cons 4 (List.cons 4 (List.cons 5 (List.cons 4 (List.cons 5 (List.cons 5 (List.cons 6 (List.cons 2 (List.cons 3 (List.cons 3 (List.cons 4 (List.cons 3 (List.cons 4 (List.cons 4 (List.cons 5 (List.cons 3 (List.cons 4 (List.cons 4 (List.cons 5 (List.cons 4 (List.cons 5 (List.cons 5 (List.cons 6 (List.cons 3 (List.cons 4 (List.cons 4 (List.cons 5 (List.cons 4 (List.cons 5 (List.cons 5 (List.cons 6 (List.cons 4 (List.cons 5 (List.cons 5 (List.cons 6 (List.cons 5 (List.cons 6 (List.cons 6 (List.cons 7 List.nil)))))))))))))))))))))))))))))))))))))))))))))))))))))))))))))))) (List.cons 2 (List.cons 3 (List.cons 3 (List.cons 4 (List.cons 3 (List.cons 4 (List.cons 4 (List.cons 5 (List.cons 3 (List.cons 4 (List.cons 4 (List.cons 5 (List.cons 4 (List.cons 5 (List.cons 5 (List.cons 6 (List.cons 3 (List.cons 4 (List.cons 4 (List.cons 5 (List.cons 4 (List.cons 5 (List.cons 5 (List.cons 6 (List.cons 4 (List.cons 5 (List.cons 5 (List.cons 6 (List.cons 5 (List.cons 6 (List.cons 6 (List.cons 7 (List.cons 3 (List.cons 4 (List.cons 4 (List.cons 5 (List.cons 4 (List.cons 5 (List.cons 5 (List.cons 6 (List.cons 4 (List.cons 5 (List.cons 5 (List.cons 6 (List.cons 5 (List.cons 6 (List.cons 6 (List.cons 7 (List.cons 4 (List.cons 5 (List.cons 5 (List.cons 6 (List.cons 5 (List.cons 6 (List.cons 6 (List.cons 7 (List.cons 5 (List.cons 6 (List.cons 6 (List.cons 7 (List.cons 6 (List.cons 7 (List.cons 7 (List.cons 8 List.nil)))))))))))))))))))))))))))))))))))))))))))))))))))))))))))))))))))))) ((UInt8.toNat x0) : Int))) fun r0 =>
    some (((w64 ((UInt8.toNat r0) : Int)), ()), ())
noncomputable def g62 (a : InDen i62) : Option (RDen o62 × BDen i62) := bits_OnesCount8 a.1
noncomputable def c62 : Con := mkCon i62 o62 g62
set_option maxRecDepth 100000 in
theorem e62 (y : InDen i62) : g62 y = evF ⟨tyOf tys, el, conOf []⟩ (fun _ => {}) Try.f62 i62 o62 y := by kernel_rfl
theorem h62 : c62.Holds Try.prog el 62 := holds_of hM (hT _) consOk_nil (fnOk_of (by kernel_rfl) (by kernel_rfl)) e62
abbrev i57 : List ATy := [.val (.sl (.int .u8))]
abbrev o57 : List RTy := [.val (.int .i64) []]
/-- loop.example/g00790/impl.BitsCount -/
noncomputable def impl_BitsCount (x0 : List UInt8) : Option (RDen o57 × BDen i57) :=
  iter (fun y0 : ((Int × (Int × TL01Cur)) × Unit) =>
    br ((ltB y0.1.2.2.2.2.1 y0.1.2.2.2.1))
      (bnd ((bIdx y0.1.2.2.1 y0.1.2.2.2.2.1)) fun r1 =>
        bnd ((bits_OnesCount8 r1)) fun r2 =>
          some (.inl ((y0.1.1, ((w64 (y0.1.2.1 + r2.1.1)), (y0.1.2.2.1, (y0.1.2.2.2.1, ((w64 (y0.1.2.2.2.2.1 + 1)), ()))))), ())))
      (some (.inr ((y0.1.2.1, ()), ()))))
    ((0, (0, (x0, (((List.length x0) : Int), (0, ()))))), ())
noncomputable def g57 (a : InDen i57) : Option (RDen o57 × BDen i57) := impl_BitsCount a.1
noncomputable def c57 : Con := mkCon i57 o57 g57
set_option maxRecDepth 100000 in
theorem e57 (y : InDen i57) : g57 y = evF ⟨tyOf tys, el, conOf [(62, c62)]⟩ (fun _ => {}) Try.f57 i57 o57 y := by kernel_rfl
theorem h57 : c57.Holds Try.prog el 57 := holds_of hM (hT _) (consOk_cons h62 consOk_nil) (fnOk_of (by kernel_rfl) (by kernel_rfl)) e57
abbrev i44 : List ATy := [.val (.pr (.int .i64) (.pr (.int .i64) (.pr (.int .i64) (.pr (.int .i64) (.pr (.int .i64) .un))))), .val (.pr (.int .i64) (.pr (.int .i64) (.pr (.sl (.int .u8)) (.pr (.sl (.int .u8)) (.pr (.sl (.sl (.int .u8))) .un)))))]
abbrev o44 : List RTy := [.val .bool []]
/-- loop.example/g00790/impl.QcOk -/
noncomputable def impl_QcOk (x0 : TLimits) (x1 : TQc) : Option (RDen o44 × BDen i44) :=
  bnd ((impl_LimitsOk x0)) fun r0 =>
    br (r0.1.1)
      (bnd ((impl_isNum x1.1)) fun r1 =>
        br (r1.1.1)
          (bnd ((impl_isNum x1.2.1)) fun r2 =>
            br (r2.1.1)
              (bnd ((impl_areHashes (List.set (List.replicate 1 List.nil) 0 x1.2.2.1))) fun r3 =>
                br (r3.1.1)
                  (bnd ((impl_BitsOk x1.2.2.2.1 x0.1)) fun r4 =>
                    br (r4.1.1)
                      (bnd ((impl_BitsCount x1.2.2.2.1)) fun r5 =>
                        br ((((List.length x1.2.2.2.2.1) : Int) == r5.1.1))
                          (bnd ((impl_areHashes x1.2.2.2.2.1)) fun r6 =>
                            some ((r6.1.1, ()), ()))
                          (some ((Bool.false, ()), ())))
                      (some ((Bool.false, ()), ())))
                  (some ((Bool.false, ()), ())))
              (some ((Bool.false, ()), ())))
          (some ((Bool.false, ()), ())))
      (some ((Bool.false, ()), ()))
noncomputable def g44 (a : InDen i44) : Option (RDen o44 × BDen i44) := impl_QcOk a.1 a.2.1
noncomputable def c44 : Con := mkCon i44 o44 g44
set_option maxRecDepth 100000 in
theorem e44 (y : InDen i44) : g44 y = evF ⟨tyOf tys, el, conOf [(42, c42), (45, c45), (46, c46), (56, c56), (57, c57)]⟩ (fun _ => {}) Try.f44 i44 o44 y := by kernel_rfl
theorem h44 : c44.Holds Try.prog el 44 := holds_of hM (hT _) (consOk_cons h42 (consOk_cons h45 (consOk_cons h46 (consOk_cons h56 (consOk_cons h57 consOk_nil))))) (fnOk_of (by kernel_rfl) (by kernel_rfl)) e44
abbrev i13 : List ATy := [.val (.sl (.int .u8)), .val (.sl (.int .u8))]
abbrev o13 : List RTy := [.val .bool []]
/-- loop.example/g00790/impl.SameBytes -/
noncomputable def impl_SameBytes (x0 : List UInt8) (x1 : List UInt8) : Option (RDen o13 × BDen i13) :=
  some (((eqD x0 x1), ()), ())
noncomputable def g13 (a : InDen i13) : Option (RDen o13 × BDen i13) := impl_SameBytes a.1 a.2.1
noncomputable def c13 : Con := mkCon i13 o13 g13
set_option maxRecDepth 100000 in
theorem e13 (y : InDen i13) : g13 y = evF ⟨tyOf tys, el, conOf []⟩ (fun _ => {}) Try.f13 i13 o13 y := by kernel_rfl
theorem h13 : c13.Holds Try.prog el 13 := holds_of hM (hT _) consOk_nil (fnOk_of (by kernel_rfl) (by kernel_rfl)) e13
abbrev i47 : List ATy := [.val (.pr (.int .i64) (.pr (.int .i64) (.pr (.int .i64) (.pr (.sl (.int .u8)) (.pr (.sl (.int .u8)) (.pr (.pr (.int .i64) (.pr (.int .i64) (.pr (.sl (.int .u8)) (.pr (.sl (.int .u8)) (.pr (.sl (.sl (.int .u8))) .un))))) .un))))))]
abbrev o47 : List RTy := [.val .bool []]
/-- (loop.example/g00790/impl.Head).matches -/
noncomputable def impl_Head_matches (x0 : THead) : Option (RDen o47 × BDen i47) :=
  br ((ltB x0.2.2.2.2.2.1.1 x0.1))
    (br ((x0.2.2.2.2.2.1.2.1 == (w64 (x0.2.1 - 1))))
      (bnd ((impl_SameBytes x0.2.2.2.2.2.1.2.2.1 x0.2.2.2.1)) fun r0 =>
        some ((r0.1.1, ()), ()))
      (some ((Bool.false, ()), ())))
    (some ((Bool.false, ()), ()))
noncomputable def g47 (a : InDen i47) : Option (RDen o47 × BDen i47) := impl_Head_matches a.1
noncomputable def c47 : Con := mkCon i47 o47 g47
set_option maxRecDepth 100000 in
theorem e47 (y : InDen i47) : g47 y = evF ⟨tyOf tys, el, conOf [(13, c13)]⟩ (fun _ => {}) Try.f47 i47 o47 y := by kernel_rfl
theorem h47 : c47.Holds Try.prog el 47 := holds_of hM (hT _) (consOk_cons h13 consOk_nil) (fnOk_of (by kernel_rfl) (by kernel_rfl)) e47
abbrev i23 : List ATy := [.val (.pr (.int .i64) (.pr (.int .i64) (.pr (.int .i64) (.pr (.int .i64) (.pr (.int .i64) .un))))), .val (.pr (.int .i64) (.pr (.int .i64) (.pr (.int .i64) (.pr (.sl (.int .u8)) (.pr (.sl (.int .u8)) (.pr (.pr (.int .i64) (.pr (.int .i64) (.pr (.sl (.int .u8)) (.pr (.sl (.int .u8)) (.pr (.sl (.sl (.int .u8))) .un))))) .un))))))]
abbrev o23 : List RTy := [.val .bool []]
/-- loop.example/g00790/impl.HeadOk -/
noncomputable def impl_HeadOk (x0 : TLimits) (x1 : THead) : Option (RDen o23 × BDen i23) :=
  bnd ((impl_QcOk x0 x1.2.2.2.2.2.1)) fun r0 =>
    br (r0.1.1)
      (bnd ((impl_isNum x1.1)) fun r1 =>
        br (r1.1.1)
          (bnd ((impl_within x1.2.1 1 1152921504606846975)) fun r2 =>
            br (r2.1.1)
              (bnd ((impl_within x1.2.2.1 0 (w64 (x0.1 - 1)))) fun r3 =>
                br (r3.1.1)
                  (bnd ((impl_areHashes (List.set (List.set (List.replicate 2 List.nil) 0 x1.2.2.2.1) 1 x1.2.2.2.2.1))) fun r4 =>
                    br (r4.1.1)
                      (bnd ((impl_Head_matches x1)) fun r5 =>
                        some ((r5.1.1, ()), ()))
                      (some ((Bool.false, ()), ())))
                  (some ((Bool.false, ()), ())))
              (some ((Bool.false, ()), ())))
          (some ((Bool.false, ()), ())))
      (some ((Bool.false, ()), ()))
noncomputable def g23 (a : InDen i23) : Option (RDen o23 × BDen i23) := impl_HeadOk a.1 a.2.1
noncomputable def c23 : Con := mkCon i23 o23 g23
set_option maxRecDepth 100000 in
theorem e23 (y : InDen i23) : g23 y = evF ⟨tyOf tys, el, conOf [(44, c44), (45, c45), (40, c40), (46, c46), (47, c47)]⟩ (fun _ => {}) Try.f23 i23 o23 y := by kernel_rfl
theorem h23 : c23.Holds Try.prog el 23 := holds_of hM (hT _) (consOk_cons h44 (consOk_cons h45 (consOk_cons h40 (consOk_cons h46 (consOk_cons h47 consOk_nil))))) (fnOk_of (by kernel_rfl) (by kernel_rfl)) e23
abbrev i7 : List ATy := [.val (.pr (.int .i64) (.pr (.int .i64) (.pr (.int .i64) (.pr (.int .i64) (.pr (.int .i64) .un))))), .val (.pr (.sl (.pr (.int .i64) (.pr (.sl (.int .u8)) .un))) .un), .val (.int .i64), .val (.sl (.int .u8))]
abbrev o7 : List RTy := [.val (.pr (.int .i64) (.pr (.int .i64) (.pr (.int .i64) (.pr (.sl (.int .u8)) (.pr (.sl (.int .u8)) (.pr (.pr (.int .i64) (.pr (.int .i64) (.pr (.sl (.int .u8)) (.pr (.sl (.int .u8)) (.pr (.sl (.sl (.int .u8))) .un))))) .un)))))) [true, true, true, true, true], .val .bool []]
/-- loop.example/g00790/impl.FirstHead -/
noncomputable def impl_FirstHead (x0 : TLimits) (x1 : TTable) (x2 : Int) (x3 : List UInt8) : Option (RDen o7 × BDen i7) :=
  bnd ((impl_copyBytes x3)) fun r0 =>
    bnd ((impl_copyBytes (List.replicate (Int.toNat 32) (UInt8.ofNat (Int.toNat 0))))) fun r1 =>
      bnd ((impl_BitsNew x0.1)) fun r2 =>
        bnd ((impl_belongs x0 x1)) fun r3 =>
          br ((Bool.not r3.1.1))
            (some (((0, (0, (0, (List.nil, (List.nil, ((0, (0, (List.nil, (List.nil, (List.nil, ()))))), ())))))), (Bool.false, ())), ()))
            (bnd ((impl_HeadOk x0 (x2, (1, (0, ((List.replicate (Int.toNat 32) (UInt8.ofNat (Int.toNat 0))), (r0.1.1, ((0, (0, (r1.1.1, (r2.1.1, (List.nil, ()))))), ())))))))) fun r4 =>
              br ((Bool.not r4.1.1))
                (some (((0, (0, (0, (List.nil, (List.nil, ((0, (0, (List.nil, (List.nil, (List.nil, ()))))), ())))))), (Bool.false, ())), ()))
                (some (((x2, (1, (0, ((List.replicate (Int.toNat 32) (UInt8.ofNat (Int.toNat 0))), (r0.1.1, ((0, (0, (r1.1.1, (r2.1.1, (List.nil, ()))))), ())))))), (Bool.true, ())), ())))
noncomputable def g7 (a : InDen i7) : Option (RDen o7 × BDen i7) := impl_FirstHead a.1 a.2.1 a.2.2.1 a.2.2.2.1
noncomputable def c7 : Con := mkCon i7 o7 g7
set_option maxRecDepth 100000 in
theorem e7 (y : InDen i7) : g7 y = evF ⟨tyOf tys, el, conOf [(20, c20), (21, c21), (22, c22), (23, c23)]⟩ (fun _ => {}) Try.f7 i7 o7 y := by kernel_rfl
theorem h7 : c7.Holds Try.prog el 7 := holds_of hM (hT _) (consOk_cons h20 (consOk_cons h21 (consOk_cons h22 (consOk_cons h23 consOk_nil)))) (fnOk_of (by kernel_rfl) (by kernel_rfl)) e7
abbrev i26 : List ATy := [.val (.sl (.sl (.int .u8)))]
abbrev o26 : List RTy := [.val (.sl (.sl (.int .u8))) [true]]
/-- loop.example/g00790/impl.copyList -/
noncomputable def impl_copyList (x0 : List (List UInt8)) : Option (RDen o26 × BDen i26) :=
  iter (fun y0 : ((List (List UInt8) × (List (List UInt8) × (Int × (Int × Unit)))) × Unit) =>
    br ((ltB y0.1.2.2.2.1 y0.1.2.2.1))
      (bnd ((bIdx y0.1.2.1 y0.1.2.2.2.1)) fun r1 =>
        bnd ((impl_copyBytes r1)) fun r2 =>
          br ((leB ((List.length y0.1.1) + (List.length (List.set (List.replicate 1 List.nil) 0 r2.1.1))) most))
            (some (.inl (((y0.1.1 ++ (List.set (List.replicate 1 List.nil) 0 r2.1.1)), (y0.1.2.1, (y0.1.2.2.1, ((w64 (y0.1.2.2.2.1 + 1)), ())))), ())))
            none)
      (some (.inr ((y0.1.1, ()), ()))))
    (((List.replicate 0 List.nil), (x0, (((List.length x0) : Int), (0, ())))), ())
noncomputable def g26 (a : InDen i26) : Option (RDen o26 × BDen i26) := impl_copyList a.1
noncomputable def c26 : Con := mkCon i26 o26 g26
set_option maxRecDepth 100000 in
theorem e26 (y : InDen i26) : g26 y = evF ⟨tyOf tys, el, conOf [(20, c20)]⟩ (fun _ => {}) Try.f26 i26 o26 y := by kernel_rfl
theorem h26 : c26.Holds Try.prog el 26 := holds_of hM (hT _) (consOk_cons h20 consOk_nil) (fnOk_of (by kernel_rfl) (by kernel_rfl)) e26
abbrev i49 : List ATy := [.val (.pr (.int .i64) (.pr (.int .i64) (.pr (.sl (.int .u8)) (.pr (.sl (.int .u8)) (.pr (.sl (.sl (.int .u8))) .un)))))]
abbrev o49 : List RTy := [.val (.pr (.int .i64) (.pr (.int .i64) (.pr (.sl (.int .u8)) (.pr (.sl (.int .u8)) (.pr (.sl (.sl (.int .u8))) .un))))) [true, true, true]]
/-- (loop.example/g00790/impl.Qc).copied -/
noncomputable def impl_Qc_copied (x0 : TQc) : Option (RDen o49 × BDen i49) :=
  bnd ((impl_copyBytes x0.2.2.1)) fun r0 =>
    bnd ((impl_copyBytes x0.2.2.2.1)) fun r1 =>
      bnd ((impl_copyList x0.2.2.2.2.1)) fun r2 =>
        some (((x0.1, (x0.2.1, (r0.1.1, (r1.1.1, (r2.1.1, ()))))), ()), ())
noncomputable def g49 (a : InDen i49) : Option (RDen o49 × BDen i49) := impl_Qc_copied a.1
noncomputable def c49 : Con := mkCon i49 o49 g49
set_option maxRecDepth 100000 in
theorem e49 (y : InDen i49) : g49 y = evF ⟨tyOf tys, el, conOf [(20, c20), (26, c26)]⟩ (fun _ => {}) Try.f49 i49 o49 y := by kernel_rfl
theorem h49 : c49.Holds Try.prog el 49 := holds_of hM (hT _) (consOk_cons h20 (consOk_cons h26 consOk_nil)) (fnOk_of (by kernel_rfl) (by kernel_rfl)) e49
abbrev i25 : List ATy := [.val (.pr (.int .i64) (.pr (.int .i64) (.pr (.int .i64) (.pr (.sl (.int .u8)) (.pr (.sl (.int .u8)) (.pr (.pr (.int .i64) (.pr (.int .i64) (.pr (.sl (.int .u8)) (.pr (.sl (.int .u8)) (.pr (.sl (.sl (.int .u8))) .un))))) .un))))))]
abbrev o25 : List RTy := [.val (.pr (.int .i64) (.pr (.int .i64) (.pr (.int .i64) (.pr (.sl (.int .u8)) (.pr (.sl (.int .u8)) (.pr (.pr (.int .i64) (.pr (.int .i64) (.pr (.sl (.int .u8)) (.pr (.sl (.int .u8)) (.pr (.sl (.sl (.int .u8))) .un))))) .un)))))) [true, true, true, true, true]]
/-- (loop.example/g00790/impl.Head).copied -/
noncomputable def impl_Head_copied (x0 : THead) : Option (RDen o25 × BDen i25) :=
  bnd ((impl_copyBytes x0.2.2.2.1)) fun r0 =>
    bnd ((impl_copyBytes x0.2.2.2.2.1)) fun r1 =>
      bnd ((impl_Qc_copied x0.2.2.2.2.2.1)) fun r2 =>
        some (((x0.1, (x0.2.1, (x0.2.2.1, (r0.1.1, (r1.1.1, (r2.1.1, ())))))), ()), ())
noncomputable def g25 (a : InDen i25) : Option (RDen o25 × BDen i25) := impl_Head_copied a.1
noncomputable def c25 : Con := mkCon i25 o25 g25
set_option maxRecDepth 100000 in
theorem e25 (y : InDen i25) : g25 y = evF ⟨tyOf tys, el, conOf [(20, c20), (49, c49)]⟩ (fun _ => {}) Try.f25 i25 o25 y := by kernel_rfl
theorem h25 : c25.Holds Try.prog el 25 := holds_of hM (hT _) (consOk_cons h20 (consOk_cons h49 consOk_nil)) (fnOk_of (by kernel_rfl) (by kernel_rfl)) e25
abbrev i51 : List ATy := []
abbrev o51 : List RTy := [.val (.sl (.int .i64)) [true]]
/-- loop.example/g00790/impl.ShaInit -/
noncomputable def impl_ShaInit  : Option (RDen o51 × BDen i51) :=
  some (((List.set (List.set (List.set (List.set (List.set (List.set (List.set (List.set (List.replicate 8 0) 0 1779033703) 1 3144134277) 2 1013904242) 3 2773480762) 4 1359893119) 5 2600822924) 6 528734635) 7 1541459225), ()), ())
noncomputable def g51 (a : InDen i51) : Option (RDen o51 × BDen i51) := impl_ShaInit
noncomputable def c51 : Con := mkCon i51 o51 g51
set_option maxRecDepth 100000 in
theorem e51 (y : InDen i51) : g51 y = evF ⟨tyOf tys, el, conOf []⟩ (fun _ => {}) Try.f51 i51 o51 y := by kernel_rfl
theorem h51 : c51.Holds Try.prog el 51 := holds_of hM (hT _) consOk_nil (fnOk_of (by kernel_rfl) (by kernel_rfl)) e51
abbrev i52 : List ATy := [.val (.sl (.int .u8))]
abbrev o52 : List RTy := [.val (.sl (.int .u8)) [true]]
/-- loop.example/g00790/impl.ShaPad -/
noncomputable def impl_ShaPad (x0 : List UInt8) : Option (RDen o52 × BDen i52) :=
  bnd ((impl_copyBytes x0)) fun r0 =>
    br ((leB ((List.length r0.1.1) + (List.length (List.set (List.replicate 1 (UInt8.ofNat (Int.toNat 0))) 0 (UInt8.ofNat (Int.toNat 128))))) most))
      (iter (fun y1 : ((List UInt8 × (List UInt8 × Unit)) × Unit) =>
        br (((Int.tmod ((List.length y1.1.2.1) : Int) 64) != 56))
          (br ((leB ((List.length y1.1.2.1) + (List.length (List.set (List.replicate 1 (UInt8.ofNat (Int.toNat 0))) 0 (UInt8.ofNat (Int.toNat 0))))) most))
            (some (.inl ((y1.1.1, ((y1.1.2.1 ++ (List.set (List.replicate 1 (UInt8.ofNat (Int.toNat 0))) 0 (UInt8.ofNat (Int.toNat 0)))), ())), ())))
            none)
          (iter (fun y2 : ((List UInt8 × TErrorAddressString) × Unit) =>
            br ((leB 0 y2.1.2.2.1))
              (br ((ltB (w64 (8 * y2.1.2.2.1)) 0))
                (none)
                (br ((leB ((List.length y2.1.2.1) + (List.length (List.set (List.replicate 1 (UInt8.ofNat (Int.toNat 0))) 0 (UInt8.ofNat (Int.toNat (w8 (iShr IntKind.i64 (w64 (8 * ((List.length y2.1.1) : Int))) (w64 (8 * y2.1.2.2.1))))))))) most))
                  (some (.inl ((y2.1.1, ((y2.1.2.1 ++ (List.set (List.replicate 1 (UInt8.ofNat (Int.toNat 0))) 0 (UInt8.ofNat (Int.toNat (w8 (iShr IntKind.i64 (w64 (8 * ((List.length y2.1.1) : Int))) (w64 (8 * y2.1.2.2.1)))))))), ((w64 (y2.1.2.2.1 - 1)), ()))), ())))
                  none))
              (some (.inr (Sum.map id id (Sum.inr ((y2.1.2.1, ()), ()))))))
            ((y1.1.1, (y1.1.2.1, (7, ()))), ())))
        ((x0, ((r0.1.1 ++ (List.set (List.replicate 1 (UInt8.ofNat (Int.toNat 0))) 0 (UInt8.ofNat (Int.toNat 128)))), ())), ()))
      none
noncomputable def g52 (a : InDen i52) : Option (RDen o52 × BDen i52) := impl_ShaPad a.1
noncomputable def c52 : Con := mkCon i52 o52 g52
set_option maxRecDepth 100000 in
theorem e52 (y : InDen i52) : g52 y = evF ⟨tyOf tys, el, conOf [(20, c20)]⟩ (fun _ => {}) Try.f52 i52 o52 y := by kernel_rfl
theorem h52 : c52.Holds Try.prog el 52 := holds_of hM (hT _) (consOk_cons h20 consOk_nil) (fnOk_of (by kernel_rfl) (by kernel_rfl)) e52
abbrev i58 : List ATy := [.val (.int .i64)]
abbrev o58 : List RTy := [.val .bool []]
/-- loop.example/g00790/impl.isWord -/
noncomputable def impl_isWord (x0 : Int) : Option (RDen o58 × BDen i58) :=
  bnd ((impl_within x0 0 4294967295)) fun r0 =>
    some ((r0.1.1, ()), ())
noncomputable def g58 (a : InDen i58) : Option (RDen o58 × BDen i58) := impl_isWord a.1
noncomputable def c58 : Con := mkCon i58 o58 g58
set_option maxRecDepth 100000 in
theorem e58 (y : InDen i58) : g58 y = evF ⟨tyOf tys, el, conOf [(40, c40)]⟩ (fun _ => {}) Try.f58 i58 o58 y := by kernel_rfl
theorem h58 : c58.Holds Try.prog el 58 := holds_of hM (hT _) (consOk_cons h40 consOk_nil) (fnOk_of (by kernel_rfl) (by kernel_rfl)) e58
abbrev i59 : List ATy := []
abbrev o59 : List RTy := [.val (.sl (.int .i64)) [true]]
/-- loop.example/g00790/impl.rounds -/
noncomputable def impl_rounds  : Option (RDen o59 × BDen i59) :=
  some (((List.set (List.set (List.set (List.set (List.set (List.set (List.set (List.set (List.set (List.set (List.set (List.set (List.set (List.set (List.set (List.set (List.set (List.set (List.set (List.set (List.set (List.set (List.set (List.set (List.set (List.set (List.set (List.set (List.set (List.set (List.set (List.set (List.set (List.set (List.set (List.set (List.set (List.set (List.set (List.set (List.set (List.set (List.set (List.set (List.set (List.set (List.set (List.set (List.set (List.set (List.set (List.set (List.set (List.set (List.set (List.set (List.set (List.set (List.set (List.set (List.set (List.set (List.set (List.set (List.replicate 64 0) 0 1116352408) 1 1899447441) 2 3049323471) 3 3921009573) 4 961987163) 5 1508970993) 6 2453635748) 7 2870763221) 8 3624381080) 9 310598401) 10 607225278) 11 1426881987) 12 1925078388) 13 2162078206) 14 2614888103) 15 3248222580) 16 3835390401) 17 4022224774) 18 264347078) 19 604807628) 20 770255983) 21 1249150122) 22 1555081692) 23 1996064986) 24 2554220882) 25 2821834349) 26 2952996808) 27 3210313671) 28 3336571891) 29 3584528711) 30 113926993) 31 338241895) 32 666307205) 33 773529912) 34 1294757372) 35 1396182291) 36 1695183700) 37 1986661051) 38 2177026350) 39 2456956037) 40 2730485921) 41 2820302411) 42 3259730800) 43 3345764771) 44 3516065817) 45 3600352804) 46 4094571909) 47 275423344) 48 430227734) 49 506948616) 50 659060556) 51 883997877) 52 958139571) 53 1322822218) 54 1537002063) 55 1747873779) 56 1955562222) 57 2024104815) 58 2227730452) 59 2361852424) 60 2428436474) 61 2756734187) 62 3204031479) 63 3329325298), ()), ())
noncomputable def g59 (a : InDen i59) : Option (RDen o59 × BDen i59) := impl_rounds
noncomputable def c59 : Con := mkCon i59 o59 g59
set_option maxRecDepth 100000 in
theorem e59 (y : InDen i59) : g59 y = evF ⟨tyOf tys, el, conOf []⟩ (fun _ => {}) Try.f59 i59 o59 y := by kernel_rfl
theorem h59 : c59.Holds Try.prog el 59 := holds_of hM (hT _) consOk_nil (fnOk_of (by kernel_rfl) (by kernel_rfl)) e59
abbrev i60 : List ATy := [.val (.int .i64), .val (.int .i64)]
abbrev o60 : List RTy := [.val (.int .i64) []]
/-- loop.example/g00790/impl.TurnRight -/
noncomputable def impl_TurnRight (x0 : Int) (x1 : Int) : Option (RDen o60 × BDen i60) :=
  bnd ((impl_isWord x0)) fun r0 =>
    br ((Bool.not r0.1.1))
      (some ((0, ()), ()))
      (bnd ((impl_within x1 0 31)) fun r1 =>
        br ((Bool.not r1.1.1))
          (some ((0, ()), ()))
          (br ((ltB x1 0))
            (none)
            (br ((ltB (w64 (32 - x1)) 0))
              (none)
              (some (((iAnd IntKind.i64 (iOr IntKind.i64 (iShr IntKind.i64 x0 x1) (iShl IntKind.i64 x0 (w64 (32 - x1)))) 4294967295), ()), ())))))
noncomputable def g60 (a : InDen i60) : Option (RDen o60 × BDen i60) := impl_TurnRight a.1 a.2.1
noncomputable def c60 : Con := mkCon i60 o60 g60
set_option maxRecDepth 100000 in
theorem e60 (y : InDen i60) : g60 y = evF ⟨tyOf tys, el, conOf [(58, c58), (40, c40)]⟩ (fun _ => {}) Try.f60 i60 o60 y := by kernel_rfl
theorem h60 : c60.Holds Try.prog el 60 := holds_of hM (hT _) (consOk_cons h58 (consOk_cons h40 consOk_nil)) (fnOk_of (by kernel_rfl) (by kernel_rfl)) e60
abbrev i53 : List ATy := [.val (.sl (.int .i64)), .val (.sl (.int .u8))]
abbrev o53 : List RTy := [.val (.sl (.int .i64)) [true]]
/-- loop.example/g00790/impl.ShaBlock -/
noncomputable def impl_ShaBlock (x0 : List Int) (x1 : List UInt8) : Option (RDen o53 × BDen i53) :=
  br ((((List.length x0) : Int) != 8))
    (some ((List.nil, ()), ()))
    (br ((((List.length x1) : Int) != 64))
      (some ((List.nil, ()), ()))
      (iter (fun y0 : ((List Int × (List UInt8 × (List Int × (Int × (Int × Unit))))) × Unit) =>
        br ((ltB y0.1.2.2.2.2.1 y0.1.2.2.2.1))
          (bnd ((bIdx y0.1.2.2.1 y0.1.2.2.2.2.1)) fun r1 =>
            bnd ((impl_isWord r1)) fun r2 =>
              br ((Bool.not r2.1.1))
                (some (.inr ((List.nil, ()), ())))
                (some (.inl ((y0.1.1, (y0.1.2.1, (y0.1.2.2.1, (y0.1.2.2.2.1, ((w64 (y0.1.2.2.2.2.1 + 1)), ()))))), ()))))
          (bnd (impl_rounds) fun r1 =>
            iter (fun y2 : ((List Int × (List UInt8 × (List Int × (Int × Unit)))) × (List Int × (List Int × Unit))) =>
              br ((ltB y2.1.2.2.2.1 16))
                (bnd ((bIdx y2.1.2.1 (w64 (4 * y2.1.2.2.2.1)))) fun r3 =>
                  bnd ((bIdx y2.1.2.1 (w64 ((w64 (4 * y2.1.2.2.2.1)) + 1)))) fun r4 =>
                    bnd ((bIdx y2.1.2.1 (w64 ((w64 (4 * y2.1.2.2.2.1)) + 2)))) fun r5 =>
                      bnd ((bIdx y2.1.2.1 (w64 ((w64 (4 * y2.1.2.2.2.1)) + 3)))) fun r6 =>
                        br ((leB 0 y2.1.2.2.2.1))
                          (br ((ltB y2.1.2.2.2.1 (64 : Int)))
                            (bnd ((GetElem?.getElem? y2.2.1 (Int.toNat y2.1.2.2.2.1))) fun r7 =>
                              some (.inl ((y2.1.1, (y2.1.2.1, (y2.1.2.2.1, ((w64 (y2.1.2.2.2.1 + 1)), ())))), ((List.set y2.2.1 (Int.toNat y2.1.2.2.2.1) (iOr IntKind.i64 (iOr IntKind.i64 (iOr IntKind.i64 (iShl IntKind.i64 (w64 ((UInt8.toNat r3) : Int)) 24) (iShl IntKind.i64 (w64 ((UInt8.toNat r4) : Int)) 16)) (iShl IntKind.i64 (w64 ((UInt8.toNat r5) : Int)) 8)) (w64 ((UInt8.toNat r6) : Int)))), (y2.2.2.1, ())))))
                            (none))
                          (none))
                (iter (fun y3 : ((List Int × (List Int × (Int × Unit))) × (List Int × (List Int × Unit))) =>
                  br ((ltB y3.1.2.2.1 64))
                    (br ((leB 0 (w64 (y3.1.2.2.1 - 15))))
                      (br ((ltB (w64 (y3.1.2.2.1 - 15)) (64 : Int)))
                        (bnd ((GetElem?.getElem? y3.2.1 (Int.toNat (w64 (y3.1.2.2.1 - 15))))) fun r4 =>
                          br ((leB 0 (w64 (y3.1.2.2.1 - 2))))
                            (br ((ltB (w64 (y3.1.2.2.1 - 2)) (64 : Int)))
                              (bnd ((GetElem?.getElem? y3.2.1 (Int.toNat (w64 (y3.1.2.2.1 - 2))))) fun r5 =>
                                bnd ((impl_TurnRight r4 7)) fun r6 =>
                                  bnd ((impl_TurnRight r4 18)) fun r7 =>
                                    bnd ((impl_TurnRight r5 17)) fun r8 =>
                                      bnd ((impl_TurnRight r5 19)) fun r9 =>
                                        br ((leB 0 (w64 (y3.1.2.2.1 - 16))))
                                          (br ((ltB (w64 (y3.1.2.2.1 - 16)) (64 : Int)))
                                            (bnd ((GetElem?.getElem? y3.2.1 (Int.toNat (w64 (y3.1.2.2.1 - 16))))) fun r10 =>
                                              br ((leB 0 (w64 (y3.1.2.2.1 - 7))))
                                                (br ((ltB (w64 (y3.1.2.2.1 - 7)) (64 : Int)))
                                                  (bnd ((GetElem?.getElem? y3.2.1 (Int.toNat (w64 (y3.1.2.2.1 - 7))))) fun r11 =>
                                                    br ((leB 0 y3.1.2.2.1))
                                                      (br ((ltB y3.1.2.2.1 (64 : Int)))
                                                        (bnd ((GetElem?.getElem? y3.2.1 (Int.toNat y3.1.2.2.1))) fun r12 =>
                                                          some (.inl ((y3.1.1, (y3.1.2.1, ((w64 (y3.1.2.2.1 + 1)), ()))), ((List.set y3.2.1 (Int.toNat y3.1.2.2.1) (iAnd IntKind.i64 (w64 ((w64 ((w64 (r10 + (iXor IntKind.i64 (iXor IntKind.i64 r6.1.1 r7.1.1) (iShr IntKind.i64 r4 3)))) + r11)) + (iXor IntKind.i64 (iXor IntKind.i64 r8.1.1 r9.1.1) (iShr IntKind.i64 r5 10)))) 4294967295)), (y3.2.2.1, ())))))
                                                        (none))
                                                      (none))
                                                  (none))
                                                (none))
                                            (none))
                                          (none))
                              (none))
                            (none))
                        (none))
                      (none))
                    (iter (fun y4 : ((List Int × (List Int × (Int × Unit))) × (List Int × (List Int × Unit))) =>
                      br ((ltB y4.1.2.2.1 64))
                        (bnd ((GetElem?.getElem? y4.2.2.1 (Int.toNat 4))) fun r5 =>
                          bnd ((GetElem?.getElem? y4.2.2.1 (Int.toNat 0))) fun r6 =>
                            bnd ((GetElem?.getElem? y4.2.2.1 (Int.toNat 5))) fun r7 =>
                              bnd ((GetElem?.getElem? y4.2.2.1 (Int.toNat 6))) fun r8 =>
                                bnd ((GetElem?.getElem? y4.2.2.1 (Int.toNat 1))) fun r9 =>
                                  bnd ((GetElem?.getElem? y4.2.2.1 (Int.toNat 2))) fun r10 =>
                                    bnd ((GetElem?.getElem? y4.2.2.1 (Int.toNat 1))) fun r11 =>
                                      bnd ((GetElem?.getElem? y4.2.2.1 (Int.toNat 2))) fun r12 =>
                                        bnd ((GetElem?.getElem? y4.2.2.1 (Int.toNat 7))) fun r13 =>
                                          bnd ((impl_TurnRight r5 6)) fun r14 =>
                                            bnd ((impl_TurnRight r5 11)) fun r15 =>
                                              bnd ((impl_TurnRight r5 25)) fun r16 =>
                                                bnd ((bIdx y4.1.2.1 y4.1.2.2.1)) fun r17 =>
                                                  br ((leB 0 y4.1.2.2.1))
                                                    (br ((ltB y4.1.2.2.1 (64 : Int)))
                                                      (bnd ((GetElem?.getElem? y4.2.1 (Int.toNat y4.1.2.2.1))) fun r18 =>
                                                        bnd ((impl_TurnRight r6 2)) fun r19 =>
                                                          bnd ((impl_TurnRight r6 13)) fun r20 =>
                                                            bnd ((impl_TurnRight r6 22)) fun r21 =>
                                                              bnd ((GetElem?.getElem? y4.2.2.1 (Int.toNat 1))) fun r22 =>
                                                                bnd ((GetElem?.getElem? y4.2.2.1 (Int.toNat 2))) fun r23 =>
                                                                  bnd ((GetElem?.getElem? y4.2.2.1 (Int.toNat 3))) fun r24 =>
                                                                    bnd ((GetElem?.getElem? y4.2.2.1 (Int.toNat 5))) fun r25 =>
                                                                      bnd ((GetElem?.getElem? y4.2.2.1 (Int.toNat 6))) fun r26 =>
                                                                        bnd ((GetElem?.getElem? (List.replicate 8 0) 0)) fun r27 =>
                                                                          bnd ((GetElem?.getElem? (List.replicate 8 0) 0)) fun r28 =>
                                                                            bnd ((GetElem?.getElem? (List.set (List.replicate 8 0) 0 (iAnd IntKind.i64 (w64 ((w64 ((w64 ((w64 ((w64 (r13 + (iXor IntKind.i64 (iXor IntKind.i64 r14.1.1 r15.1.1) r16.1.1))) + (iOr IntKind.i64 (iAnd IntKind.i64 r5 r7) (iAnd IntKind.i64 (iXor IntKind.i64 r5 4294967295) r8)))) + r17)) + r18)) + (w64 ((iXor IntKind.i64 (iXor IntKind.i64 r19.1.1 r20.1.1) r21.1.1) + (iOr IntKind.i64 (iOr IntKind.i64 (iAnd IntKind.i64 r6 r9) (iAnd IntKind.i64 r6 r10)) (iAnd IntKind.i64 r11 r12)))))) 4294967295)) 1)) fun r29 =>
                                                                              bnd ((GetElem?.getElem? (List.set (List.replicate 8 0) 0 (iAnd IntKind.i64 (w64 ((w64 ((w64 ((w64 ((w64 (r13 + (iXor IntKind.i64 (iXor IntKind.i64 r14.1.1 r15.1.1) r16.1.1))) + (iOr IntKind.i64 (iAnd IntKind.i64 r5 r7) (iAnd IntKind.i64 (iXor IntKind.i64 r5 4294967295) r8)))) + r17)) + r18)) + (w64 ((iXor IntKind.i64 (iXor IntKind.i64 r19.1.1 r20.1.1) r21.1.1) + (iOr IntKind.i64 (iOr IntKind.i64 (iAnd IntKind.i64 r6 r9) (iAnd IntKind.i64 r6 r10)) (iAnd IntKind.i64 r11 r12)))))) 4294967295)) 1)) fun r30 =>
                                                                                bnd ((GetElem?.getElem? (List.set (List.set (List.replicate 8 0) 0 (iAnd IntKind.i64 (w64 ((w64 ((w64 ((w64 ((w64 (r13 + (iXor IntKind.i64 (iXor IntKind.i64 r14.1.1 r15.1.1) r16.1.1))) + (iOr IntKind.i64 (iAnd IntKind.i64 r5 r7) (iAnd IntKind.i64 (iXor IntKind.i64 r5 4294967295) r8)))) + r17)) + r18)) + (w64 ((iXor IntKind.i64 (iXor IntKind.i64 r19.1.1 r20.1.1) r21.1.1) + (iOr IntKind.i64 (iOr IntKind.i64 (iAnd IntKind.i64 r6 r9) (iAnd IntKind.i64 r6 r10)) (iAnd IntKind.i64 r11 r12)))))) 4294967295)) 1 r6) 2)) fun r31 =>
                                                                                  bnd ((GetElem?.getElem? (List.set (List.set (List.replicate 8 0) 0 (iAnd IntKind.i64 (w64 ((w64 ((w64 ((w64 ((w64 (r13 + (iXor IntKind.i64 (iXor IntKind.i64 r14.1.1 r15.1.1) r16.1.1))) + (iOr IntKind.i64 (iAnd IntKind.i64 r5 r7) (iAnd IntKind.i64 (iXor IntKind.i64 r5 4294967295) r8)))) + r17)) + r18)) + (w64 ((iXor IntKind.i64 (iXor IntKind.i64 r19.1.1 r20.1.1) r21.1.1) + (iOr IntKind.i64 (iOr IntKind.i64 (iAnd IntKind.i64 r6 r9) (iAnd IntKind.i64 r6 r10)) (iAnd IntKind.i64 r11 r12)))))) 4294967295)) 1 r6) 2)) fun r32 =>
                                                                                    bnd ((GetElem?.getElem? (List.set (List.set (List.set (List.replicate 8 0) 0 (iAnd IntKind.i64 (w64 ((w64 ((w64 ((w64 ((w64 (r13 + (iXor IntKind.i64 (iXor IntKind.i64 r14.1.1 r15.1.1) r16.1.1))) + (iOr IntKind.i64 (iAnd IntKind.i64 r5 r7) (iAnd IntKind.i64 (iXor IntKind.i64 r5 4294967295) r8)))) + r17)) + r18)) + (w64 ((iXor IntKind.i64 (iXor IntKind.i64 r19.1.1 r20.1.1) r21.1.1) + (iOr IntKind.i64 (iOr IntKind.i64 (iAnd IntKind.i64 r6 r9) (iAnd IntKind.i64 r6 r10)) (iAnd IntKind.i64 r11 r12)))))) 4294967295)) 1 r6) 2 r22) 3)) fun r33 =>
                                                                                      bnd ((GetElem?.getElem? (List.set (List.set (List.set (List.replicate 8 0) 0 (iAnd IntKind.i64 (w64 ((w64 ((w64 ((w64 ((w64 (r13 + (iXor IntKind.i64 (iXor IntKind.i64 r14.1.1 r15.1.1) r16.1.1))) + (iOr IntKind.i64 (iAnd IntKind.i64 r5 r7) (iAnd IntKind.i64 (iXor IntKind.i64 r5 4294967295) r8)))) + r17)) + r18)) + (w64 ((iXor IntKind.i64 (iXor IntKind.i64 r19.1.1 r20.1.1) r21.1.1) + (iOr IntKind.i64 (iOr IntKind.i64 (iAnd IntKind.i64 r6 r9) (iAnd IntKind.i64 r6 r10)) (iAnd IntKind.i64 r11 r12)))))) 4294967295)) 1 r6) 2 r22) 3)) fun r34 =>
                                                                                        bnd ((GetElem?.getElem? (List.set (List.set (List.set (List.set (List.replicate 8 0) 0 (iAnd IntKind.i64 (w64 ((w64 ((w64 ((w64 ((w64 (r13 + (iXor IntKind.i64 (iXor IntKind.i64 r14.1.1 r15.1.1) r16.1.1))) + (iOr IntKind.i64 (iAnd IntKind.i64 r5 r7) (iAnd IntKind.i64 (iXor IntKind.i64 r5 4294967295) r8)))) + r17)) + r18)) + (w64 ((iXor IntKind.i64 (iXor IntKind.i64 r19.1.1 r20.1.1) r21.1.1) + (iOr IntKind.i64 (iOr IntKind.i64 (iAnd IntKind.i64 r6 r9) (iAnd IntKind.i64 r6 r10)) (iAnd IntKind.i64 r11 r12)))))) 4294967295)) 1 r6) 2 r22) 3 r23) 4)) fun r35 =>
                                                                                          bnd ((GetElem?.getElem? (List.set (List.set (List.set (List.set (List.replicate 8 0) 0 (iAnd IntKind.i64 (w64 ((w64 ((w64 ((w64 ((w64 (r13 + (iXor IntKind.i64 (iXor IntKind.i64 r14.1.1 r15.1.1) r16.1.1))) + (iOr IntKind.i64 (iAnd IntKind.i64 r5 r7) (iAnd IntKind.i64 (iXor IntKind.i64 r5 4294967295) r8)))) + r17)) + r18)) + (w64 ((iXor IntKind.i64 (iXor IntKind.i64 r19.1.1 r20.1.1) r21.1.1) + (iOr IntKind.i64 (iOr IntKind.i64 (iAnd IntKind.i64 r6 r9) (iAnd IntKind.i64 r6 r10)) (iAnd IntKind.i64 r11 r12)))))) 4294967295)) 1 r6) 2 r22) 3 r23) 4)) fun r36 =>
                                                                                            bnd ((GetElem?.getElem? (List.set (List.set (List.set (List.set (List.set (List.replicate 8 0) 0 (iAnd IntKind.i64 (w64 ((w64 ((w64 ((w64 ((w64 (r13 + (iXor IntKind.i64 (iXor IntKind.i64 r14.1.1 r15.1.1) r16.1.1))) + (iOr IntKind.i64 (iAnd IntKind.i64 r5 r7) (iAnd IntKind.i64 (iXor IntKind.i64 r5 4294967295) r8)))) + r17)) + r18)) + (w64 ((iXor IntKind.i64 (iXor IntKind.i64 r19.1.1 r20.1.1) r21.1.1) + (iOr IntKind.i64 (iOr IntKind.i64 (iAnd IntKind.i64 r6 r9) (iAnd IntKind.i64 r6 r10)) (iAnd IntKind.i64 r11 r12)))))) 4294967295)) 1 r6) 2 r22) 3 r23) 4 (iAnd IntKind.i64 (w64 (r24 + (w64 ((w64 ((w64 ((w64 (r13 + (iXor IntKind.i64 (iXor IntKind.i64 r14.1.1 r15.1.1) r16.1.1))) + (iOr IntKind.i64 (iAnd IntKind.i64 r5 r7) (iAnd IntKind.i64 (iXor IntKind.i64 r5 4294967295) r8)))) + r17)) + r18)))) 4294967295)) 5)) fun r37 =>
                                                                                              bnd ((GetElem?.getElem? (List.set (List.set (List.set (List.set (List.set (List.replicate 8 0) 0 (iAnd IntKind.i64 (w64 ((w64 ((w64 ((w64 ((w64 (r13 + (iXor IntKind.i64 (iXor IntKind.i64 r14.1.1 r15.1.1) r16.1.1))) + (iOr IntKind.i64 (iAnd IntKind.i64 r5 r7) (iAnd IntKind.i64 (iXor IntKind.i64 r5 4294967295) r8)))) + r17)) + r18)) + (w64 ((iXor IntKind.i64 (iXor IntKind.i64 r19.1.1 r20.1.1) r21.1.1) + (iOr IntKind.i64 (iOr IntKind.i64 (iAnd IntKind.i64 r6 r9) (iAnd IntKind.i64 r6 r10)) (iAnd IntKind.i64 r11 r12)))))) 4294967295)) 1 r6) 2 r22) 3 r23) 4 (iAnd IntKind.i64 (w64 (r24 + (w64 ((w64 ((w64 ((w64 (r13 + (iXor IntKind.i64 (iXor IntKind.i64 r14.1.1 r15.1.1) r16.1.1))) + (iOr IntKind.i64 (iAnd IntKind.i64 r5 r7) (iAnd IntKind.i64 (iXor IntKind.i64 r5 4294967295) r8)))) + r17)) + r18)))) 4294967295)) 5)) fun r38 =>
                                                                                                bnd ((GetElem?.getElem? (List.set (List.set (List.set (List.set (List.set (List.set (List.replicate 8 0) 0 (iAnd IntKind.i64 (w64 ((w64 ((w64 ((w64 ((w64 (r13 + (iXor IntKind.i64 (iXor IntKind.i64 r14.1.1 r15.1.1) r16.1.1))) + (iOr IntKind.i64 (iAnd IntKind.i64 r5 r7) (iAnd IntKind.i64 (iXor IntKind.i64 r5 4294967295) r8)))) + r17)) + r18)) + (w64 ((iXor IntKind.i64 (iXor IntKind.i64 r19.1.1 r20.1.1) r21.1.1) + (iOr IntKind.i64 (iOr IntKind.i64 (iAnd IntKind.i64 r6 r9) (iAnd IntKind.i64 r6 r10)) (iAnd IntKind.i64 r11 r12)))))) 4294967295)) 1 r6) 2 r22) 3 r23) 4 (iAnd IntKind.i64 (w64 (r24 + (w64 ((w64 ((w64 ((w64 (r13 + (iXor IntKind.i64 (iXor IntKind.i64 r14.1.1 r15.1.1) r16.1.1))) + (iOr IntKind.i64 (iAnd IntKind.i64 r5 r7) (iAnd IntKind.i64 (iXor IntKind.i64 r5 4294967295) r8)))) + r17)) + r18)))) 4294967295)) 5 r5) 6)) fun r39 =>
                                                                                                  bnd ((GetElem?.getElem? (List.set (List.set (List.set (List.set (List.set (List.set (List.replicate 8 0) 0 (iAnd IntKind.i64 (w64 ((w64 ((w64 ((w64 ((w64 (r13 + (iXor IntKind.i64 (iXor IntKind.i64 r14.1.1 r15.1.1) r16.1.1))) + (iOr IntKind.i64 (iAnd IntKind.i64 r5 r7) (iAnd IntKind.i64 (iXor IntKind.i64 r5 4294967295) r8)))) + r17)) + r18)) + (w64 ((iXor IntKind.i64 (iXor IntKind.i64 r19.1.1 r20.1.1) r21.1.1) + (iOr IntKind.i64 (iOr IntKind.i64 (iAnd IntKind.i64 r6 r9) (iAnd IntKind.i64 r6 r10)) (iAnd IntKind.i64 r11 r12)))))) 4294967295)) 1 r6) 2 r22) 3 r23) 4 (iAnd IntKind.i64 (w64 (r24 + (w64 ((w64 ((w64 ((w64 (r13 + (iXor IntKind.i64 (iXor IntKind.i64 r14.1.1 r15.1.1) r16.1.1))) + (iOr IntKind.i64 (iAnd IntKind.i64 r5 r7) (iAnd IntKind.i64 (iXor IntKind.i64 r5 4294967295) r8)))) + r17)) + r18)))) 4294967295)) 5 r5) 6)) fun r40 =>
                                                                                                    bnd ((GetElem?.getElem? (List.set (List.set (List.set (List.set (List.set (List.set (List.set (List.replicate 8 0) 0 (iAnd IntKind.i64 (w64 ((w64 ((w64 ((w64 ((w64 (r13 + (iXor IntKind.i64 (iXor IntKind.i64 r14.1.1 r15.1.1) r16.1.1))) + (iOr IntKind.i64 (iAnd IntKind.i64 r5 r7) (iAnd IntKind.i64 (iXor IntKind.i64 r5 4294967295) r8)))) + r17)) + r18)) + (w64 ((iXor IntKind.i64 (iXor IntKind.i64 r19.1.1 r20.1.1) r21.1.1) + (iOr IntKind.i64 (iOr IntKind.i64 (iAnd IntKind.i64 r6 r9) (iAnd IntKind.i64 r6 r10)) (iAnd IntKind.i64 r11 r12)))))) 4294967295)) 1 r6) 2 r22) 3 r23) 4 (iAnd IntKind.i64 (w64 (r24 + (w64 ((w64 ((w64 ((w64 (r13 + (iXor IntKind.i64 (iXor IntKind.i64 r14.1.1 r15.1.1) r16.1.1))) + (iOr IntKind.i64 (iAnd IntKind.i64 r5 r7) (iAnd IntKind.i64 (iXor IntKind.i64 r5 4294967295) r8)))) + r17)) + r18)))) 4294967295)) 5 r5) 6 r25) 7)) fun r41 =>
                                                                                                      bnd ((GetElem?.getElem? (List.set (List.set (List.set (List.set (List.set (List.set (List.set (List.replicate 8 0) 0 (iAnd IntKind.i64 (w64 ((w64 ((w64 ((w64 ((w64 (r13 + (iXor IntKind.i64 (iXor IntKind.i64 r14.1.1 r15.1.1) r16.1.1))) + (iOr IntKind.i64 (iAnd IntKind.i64 r5 r7) (iAnd IntKind.i64 (iXor IntKind.i64 r5 4294967295) r8)))) + r17)) + r18)) + (w64 ((iXor IntKind.i64 (iXor IntKind.i64 r19.1.1 r20.1.1) r21.1.1) + (iOr IntKind.i64 (iOr IntKind.i64 (iAnd IntKind.i64 r6 r9) (iAnd IntKind.i64 r6 r10)) (iAnd IntKind.i64 r11 r12)))))) 4294967295)) 1 r6) 2 r22) 3 r23) 4 (iAnd IntKind.i64 (w64 (r24 + (w64 ((w64 ((w64 ((w64 (r13 + (iXor IntKind.i64 (iXor IntKind.i64 r14.1.1 r15.1.1) r16.1.1))) + (iOr IntKind.i64 (iAnd IntKind.i64 r5 r7) (iAnd IntKind.i64 (iXor IntKind.i64 r5 4294967295) r8)))) + r17)) + r18)))) 4294967295)) 5 r5) 6 r25) 7)) fun r42 =>
                                                                                                        some (.inl ((y4.1.1, (y4.1.2.1, ((w64 (y4.1.2.2.1 + 1)), ()))), (y4.2.1, ((List.set (List.set (List.set (List.set (List.set (List.set (List.set (List.set (List.replicate 8 0) 0 (iAnd IntKind.i64 (w64 ((w64 ((w64 ((w64 ((w64 (r13 + (iXor IntKind.i64 (iXor IntKind.i64 r14.1.1 r15.1.1) r16.1.1))) + (iOr IntKind.i64 (iAnd IntKind.i64 r5 r7) (iAnd IntKind.i64 (iXor IntKind.i64 r5 4294967295) r8)))) + r17)) + r18)) + (w64 ((iXor IntKind.i64 (iXor IntKind.i64 r19.1.1 r20.1.1) r21.1.1) + (iOr IntKind.i64 (iOr IntKind.i64 (iAnd IntKind.i64 r6 r9) (iAnd IntKind.i64 r6 r10)) (iAnd IntKind.i64 r11 r12)))))) 4294967295)) 1 r6) 2 r22) 3 r23) 4 (iAnd IntKind.i64 (w64 (r24 + (w64 ((w64 ((w64 ((w64 (r13 + (iXor IntKind.i64 (iXor IntKind.i64 r14.1.1 r15.1.1) r16.1.1))) + (iOr IntKind.i64 (iAnd IntKind.i64 r5 r7) (iAnd IntKind.i64 (iXor IntKind.i64 r5 4294967295) r8)))) + r17)) + r18)))) 4294967295)) 5 r5) 6 r25) 7 r26), ())))))
                                                      (none))
                                                    (none))
                        (iter (fun y5 : ((List Int × (List Int × (Int × Unit))) × (List Int × Unit)) =>
                          br ((ltB y5.1.2.2.1 8))
                            (bnd ((bIdx y5.1.1 y5.1.2.2.1)) fun r6 =>
                              br ((leB 0 y5.1.2.2.1))
                                (br ((ltB y5.1.2.2.1 (8 : Int)))
                                  (bnd ((GetElem?.getElem? y5.2.1 (Int.toNat y5.1.2.2.1))) fun r7 =>
                                    br ((leB ((List.length y5.1.2.1) + (List.length (List.set (List.replicate 1 0) 0 (iAnd IntKind.i64 (w64 (r6 + r7)) 4294967295)))) most))
                                      (some (.inl ((y5.1.1, ((y5.1.2.1 ++ (List.set (List.replicate 1 0) 0 (iAnd IntKind.i64 (w64 (r6 + r7)) 4294967295))), ((w64 (y5.1.2.2.1 + 1)), ()))), (y5.2.1, ()))))
                                      none)
                                  (none))
                                (none))
                            (some (.inr (Sum.map id (fun o => (Sum.map id (fun o => (Sum.map id (fun o => (Sum.map id id (Sum.inr o))) (Sum.inr o))) (Sum.inr o))) (Sum.inr ((y5.1.2.1, ()), ()))))))
                          ((y4.1.1, ((List.replicate 0 0), (0, ()))), (y4.2.2.1, ()))))
                      ((y3.1.1, (y3.1.2.1, (0, ()))), (y3.2.1, ((over y3.1.1 y3.2.2.1), ())))))
                  ((y2.1.1, (y2.1.2.2.1, (16, ()))), (y2.2.1, (y2.2.2.1, ())))))
              ((y0.1.1, (y0.1.2.1, (r1.1.1, (0, ())))), ((List.replicate 64 0), ((List.replicate 8 0), ())))))
        ((x0, (x1, (x0, (((List.length x0) : Int), (0, ()))))), ())))
noncomputable def g53 (a : InDen i53) : Option (RDen o53 × BDen i53) := impl_ShaBlock a.1 a.2.1
noncomputable def c53 : Con := mkCon i53 o53 g53
set_option maxRecDepth 100000 in
theorem e53 (y : InDen i53) : g53 y = evF ⟨tyOf tys, el, conOf [(58, c58), (59, c59), (60, c60)]⟩ (fun _ => {}) Try.f53 i53 o53 y := by kernel_rfl
theorem h53 : c53.Holds Try.prog el 53 := holds_of hM (hT _) (consOk_cons h58 (consOk_cons h59 (consOk_cons h60 consOk_nil))) (fnOk_of (by kernel_rfl) (by kernel_rfl)) e53
abbrev i32 : List ATy := [.val (.sl (.int .u8))]
abbrev o32 : List RTy := [.val (.sl (.int .u8)) [true]]
/-- loop.example/g00790/impl.Sha -/
noncomputable def impl_Sha (x0 : List UInt8) : Option (RDen o32 × BDen i32) :=
  bnd (impl_ShaInit) fun r0 =>
    bnd ((impl_ShaPad x0)) fun r1 =>
      iter (fun y2 : ((List Int × TErrorAddressString) × Unit) =>
        br ((ltB y2.1.2.2.1 ((List.length y2.1.2.1) : Int)))
          (bnd ((cut y2.1.2.1 y2.1.2.2.1 (w64 (y2.1.2.2.1 + 64)))) fun r3 =>
            bnd ((impl_ShaBlock y2.1.1 r3)) fun r4 =>
              some (.inl ((r4.1.1, (y2.1.2.1, ((w64 (y2.1.2.2.1 + 64)), ()))), ())))
          (iter (fun y3 : ((List UInt8 × (List Int × (Int × (Int × Unit)))) × Unit) =>
            br ((ltB y3.1.2.2.2.1 y3.1.2.2.1))
              (bnd ((bIdx y3.1.2.1 y3.1.2.2.2.1)) fun r4 =>
                br ((leB ((List.length y3.1.1) + (List.length (List.set (List.set (List.set (List.set (List.replicate 4 (UInt8.ofNat (Int.toNat 0))) 0 (UInt8.ofNat (Int.toNat (w8 (iShr IntKind.i64 r4 24))))) 1 (UInt8.ofNat (Int.toNat (w8 (iShr IntKind.i64 r4 16))))) 2 (UInt8.ofNat (Int.toNat (w8 (iShr IntKind.i64 r4 8))))) 3 (UInt8.ofNat (Int.toNat (w8 r4)))))) most))
                  (some (.inl (((y3.1.1 ++ (List.set (List.set (List.set (List.set (List.replicate 4 (UInt8.ofNat (Int.toNat 0))) 0 (UInt8.ofNat (Int.toNat (w8 (iShr IntKind.i64 r4 24))))) 1 (UInt8.ofNat (Int.toNat (w8 (iShr IntKind.i64 r4 16))))) 2 (UInt8.ofNat (Int.toNat (w8 (iShr IntKind.i64 r4 8))))) 3 (UInt8.ofNat (Int.toNat (w8 r4))))), (y3.1.2.1, (y3.1.2.2.1, ((w64 (y3.1.2.2.2.1 + 1)), ())))), ())))
                  none)
              (some (.inr (Sum.map id id (Sum.inr ((y3.1.1, ()), ()))))))
            (((List.replicate 0 (UInt8.ofNat (Int.toNat 0))), (y2.1.1, (((List.length y2.1.1) : Int), (0, ())))), ())))
        ((r0.1.1, (r1.1.1, (0, ()))), ())
noncomputable def g32 (a : InDen i32) : Option (RDen o32 × BDen i32) := impl_Sha a.1
noncomputable def c32 : Con := mkCon i32 o32 g32
set_option maxRecDepth 100000 in
theorem e32 (y : InDen i32) : g32 y = evF ⟨tyOf tys, el, conOf [(51, c51), (52, c52), (53, c53)]⟩ (fun n => if n = 3 then { im := [(true, 4, 0)] } else {}) Try.f32 i32 o32 y := by kernel_rfl
theorem h32 : c32.Holds Try.prog el 32 := holds_of hM (hT _) (consOk_cons h51 (consOk_cons h52 (consOk_cons h53 consOk_nil))) (fnOk_of (by kernel_rfl) (by kernel_rfl)) e32
abbrev i29 : List ATy := [.val (.sl (.int .u8))]
abbrev o29 : List RTy := [.val (.sl (.int .u8)) [true]]
/-- loop.example/g00790/impl.LeafHash -/
noncomputable def impl_LeafHash (x0 : List UInt8) : Option (RDen o29 × BDen i29) :=
  br ((leB ((List.length (List.set (List.replicate 1 (UInt8.ofNat (Int.toNat 0))) 0 (UInt8.ofNat (Int.toNat 0)))) + (List.length x0)) most))
    (bnd ((impl_Sha ((List.set (List.replicate 1 (UInt8.ofNat (Int.toNat 0))) 0 (UInt8.ofNat (Int.toNat 0))) ++ x0))) fun r0 =>
      some ((r0.1.1, ()), ()))
    none
noncomputable def g29 (a : InDen i29) : Option (RDen o29 × BDen i29) := impl_LeafHash a.1
noncomputable def c29 : Con := mkCon i29 o29 g29
set_option maxRecDepth 100000 in
theorem e29 (y : InDen i29) : g29 y = evF ⟨tyOf tys, el, conOf [(32, c32)]⟩ (fun _ => {}) Try.f29 i29 o29 y := by kernel_rfl
theorem h29 : c29.Holds Try.prog el 29 := holds_of hM (hT _) (consOk_cons h32 consOk_nil) (fnOk_of (by kernel_rfl) (by kernel_rfl)) e29
abbrev i50 : List ATy := [.val (.int .i64)]
abbrev o50 : List RTy := [.val (.int .i64) []]
/-- loop.example/g00790/impl.SplitAt -/
noncomputable def impl_SplitAt (x0 : Int) : Option (RDen o50 × BDen i50) :=
  br ((ltB x0 2))
    (some ((0, ()), ()))
    (iter (fun y0 : ((Int × (Int × (Int × Unit))) × Unit) =>
      br ((ltB y0.1.2.2.1 (w64 (y0.1.1 - y0.1.2.2.1))))
        (some (.inl ((y0.1.1, (y0.1.2.1, ((w64 (y0.1.2.2.1 * 2)), ()))), ())))
        (some (.inr ((y0.1.2.2.1, ()), ()))))
      ((x0, (0, (1, ()))), ()))
noncomputable def g50 (a : InDen i50) : Option (RDen o50 × BDen i50) := impl_SplitAt a.1
noncomputable def c50 : Con := mkCon i50 o50 g50
set_option maxRecDepth 100000 in
theorem e50 (y : InDen i50) : g50 y = evF ⟨tyOf tys, el, conOf []⟩ (fun _ => {}) Try.f50 i50 o50 y := by kernel_rfl
theorem h50 : c50.Holds Try.prog el 50 := holds_of hM (hT _) consOk_nil (fnOk_of (by kernel_rfl) (by kernel_rfl)) e50
abbrev i33 : List ATy := [.val (.sl (.int .u8)), .val (.sl (.int .u8))]
abbrev o33 : List RTy := [.val (.sl (.int .u8)) [true]]
/-- loop.example/g00790/impl.NodeHash -/
noncomputable def impl_NodeHash (x0 : List UInt8) (x1 : List UInt8) : Option (RDen o33 × BDen i33) :=
  br ((leB ((List.length (List.set (List.replicate 1 (UInt8.ofNat (Int.toNat 0))) 0 (UInt8.ofNat (Int.toNat 1)))) + (List.length x0)) most))
    (br ((leB ((List.length ((List.set (List.replicate 1 (UInt8.ofNat (Int.toNat 0))) 0 (UInt8.ofNat (Int.toNat 1))) ++ x0)) + (List.length x1)) most))
      (bnd ((impl_Sha (((List.set (List.replicate 1 (UInt8.ofNat (Int.toNat 0))) 0 (UInt8.ofNat (Int.toNat 1))) ++ x0) ++ x1))) fun r0 =>
        some ((r0.1.1, ()), ()))
      none)
    none
noncomputable def g33 (a : InDen i33) : Option (RDen o33 × BDen i33) := impl_NodeHash a.1 a.2.1
noncomputable def c33 : Con := mkCon i33 o33 g33
set_option maxRecDepth 100000 in
theorem e33 (y : InDen i33) : g33 y = evF ⟨tyOf tys, el, conOf [(32, c32)]⟩ (fun _ => {}) Try.f33 i33 o33 y := by kernel_rfl
theorem h33 : c33.Holds Try.prog el 33 := holds_of hM (hT _) (consOk_cons h32 consOk_nil) (fnOk_of (by kernel_rfl) (by kernel_rfl)) e33
abbrev i27 : List ATy := [.val (.sl (.sl (.int .u8)))]
abbrev o27 : List RTy := [.val (.sl (.int .u8)) [true]]
/-- loop.example/g00790/impl.TreeRoot: a round -/
noncomputable def impl_TreeRootF (rec : (List (List UInt8)) → Option (RDen o27 × BDen i27)) (x0 : List (List UInt8)) : Option (RDen o27 × BDen i27) :=
  br ((((List.length x0) : Int) == 0))
    (bnd ((impl_Sha List.nil)) fun r0 =>
      some ((r0.1.1, ()), ()))
    (br ((((List.length x0) : Int) == 1))
      (bnd ((bIdx x0 0)) fun r0 =>
        bnd ((impl_LeafHash r0)) fun r1 =>
          some ((r1.1.1, ()), ()))
      (bnd ((impl_SplitAt ((List.length x0) : Int))) fun r0 =>
        bnd ((cut x0 0 r0.1.1)) fun r1 =>
          bnd ((rec r1)) fun r2 =>
            bnd ((cut x0 r0.1.1 ((List.length x0) : Int))) fun r3 =>
              bnd ((rec r3)) fun r4 =>
                bnd ((impl_NodeHash r2.1.1 r4.1.1)) fun r5 =>
                  some ((r5.1.1, ()), ())))
noncomputable def impl_TreeRootN : Nat → (List (List UInt8)) → Option (RDen o27 × BDen i27)
  | 0 => fun _ => none
  | n + 1 => impl_TreeRootF (impl_TreeRootN n)
def impl_TreeRootQ (x0 : List (List UInt8)) : Nat := x0.length + 1
noncomputable def impl_TreeRoot (x0 : List (List UInt8)) : Option (RDen o27 × BDen i27) := impl_TreeRootN (impl_TreeRootQ x0) x0
noncomputable def g27 (r : (List (List UInt8)) → Option (RDen o27 × BDen i27)) (a : InDen i27) : Option (RDen o27 × BDen i27) := r a.1
noncomputable def c27 : Con := mkCon i27 o27 (g27 impl_TreeRoot)
set_option maxRecDepth 100000 in
theorem e27 (rec : (List (List UInt8)) → Option (RDen o27 × BDen i27)) (y : InDen i27) : g27 (impl_TreeRootF rec) y = evF ⟨tyOf tys, el, conOf [(27, mkCon i27 o27 (g27 rec)), (32, c32), (29, c29), (50, c50), (33, c33)]⟩ (fun _ => {}) Try.f27 i27 o27 y := by kernel_rfl
theorem h27 : c27.Holds Try.prog el 27 := holds_fuel (g := fun n a => impl_TreeRootN n a.1) (holds_rec hM hT (consOk_cons h32 (consOk_cons h29 (consOk_cons h50 (consOk_cons h33 consOk_nil)))) (fnOk_of (by kernel_rfl) (by kernel_rfl)) (fun _ => rfl) (fun n y => e27 (impl_TreeRootN n) y)) (fun a => impl_TreeRootQ a.1)
abbrev i12 : List ATy := [.val (.pr (.int .i64) (.pr (.int .i64) (.pr (.int .i64) (.pr (.int .i64) (.pr (.int .i64) .un))))), .val (.pr (.pr (.int .i64) (.pr (.int .i64) (.pr (.int .i64) (.pr (.sl (.int .u8)) (.pr (.sl (.int .u8)) (.pr (.pr (.int .i64) (.pr (.int .i64) (.pr (.sl (.int .u8)) (.pr (.sl (.int .u8)) (.pr (.sl (.sl (.int .u8))) .un))))) .un)))))) (.pr (.sl (.sl (.int .u8))) .un))]
abbrev o12 : List RTy := [.val .bool []]
/-- loop.example/g00790/impl.BlockOk -/
noncomputable def impl_BlockOk (x0 : TLimits) (x1 : TBlock) : Option (RDen o12 × BDen i12) :=
  iter (fun y0 : ((Bool × (List (List UInt8) × (Int × (Int × Unit)))) × (TLimits × (TBlock × Unit))) =>
    br ((ltB y0.1.2.2.2.1 y0.1.2.2.1))
      (bnd ((bIdx y0.1.2.1 y0.1.2.2.2.1)) fun r1 =>
        br ((ltB y0.2.1.2.1 ((List.length r1) : Int)))
          (some (.inr ((Bool.false, ()), ())))
          (some (.inl ((y0.1.1, (y0.1.2.1, (y0.1.2.2.1, ((w64 (y0.1.2.2.2.1 + 1)), ())))), (y0.2.1, (y0.2.2.1, ()))))))
      (bnd ((impl_HeadOk y0.2.1 y0.2.2.1.1)) fun r1 =>
        br (r1.1.1)
          (br ((leB ((List.length y0.2.2.1.2.1) : Int) y0.2.1.2.2.1))
            (bnd ((impl_TreeRoot y0.2.2.1.2.1)) fun r2 =>
              bnd ((impl_SameBytes y0.2.2.1.1.2.2.2.2.1 r2.1.1)) fun r3 =>
                some (.inr ((r3.1.1, ()), ())))
            (some (.inr ((Bool.false, ()), ()))))
          (some (.inr ((Bool.false, ()), ())))))
    ((Bool.false, (x1.2.1, (((List.length x1.2.1) : Int), (0, ())))), (x0, (x1, ())))
noncomputable def g12 (a : InDen i12) : Option (RDen o12 × BDen i12) := impl_BlockOk a.1 a.2.1
noncomputable def c12 : Con := mkCon i12 o12 g12
set_option maxRecDepth 100000 in
theorem e12 (y : InDen i12) : g12 y = evF ⟨tyOf tys, el, conOf [(23, c23), (27, c27), (13, c13)]⟩ (fun _ => {}) Try.f12 i12 o12 y := by kernel_rfl
theorem h12 : c12.Holds Try.prog el 12 := holds_of hM (hT _) (consOk_cons h23 (consOk_cons h27 (consOk_cons h13 consOk_nil))) (fnOk_of (by kernel_rfl) (by kernel_rfl)) e12
abbrev i9 : List ATy := [.val (.pr (.int .i64) (.pr (.int .i64) (.pr (.int .i64) (.pr (.int .i64) (.pr (.int .i64) .un))))), .val (.pr (.int .i64) (.pr (.int .i64) (.pr (.int .i64) (.pr (.sl (.int .u8)) (.pr (.sl (.int .u8)) (.pr (.pr (.int .i64) (.pr (.int .i64) (.pr (.sl (.int .u8)) (.pr (.sl (.int .u8)) (.pr (.sl (.sl (.int .u8))) .un))))) .un)))))), .val (.sl (.sl (.int .u8)))]
abbrev o9 : List RTy := [.val (.pr (.pr (.int .i64) (.pr (.int .i64) (.pr (.int .i64) (.pr (.sl (.int .u8)) (.pr (.sl (.int .u8)) (.pr (.pr (.int .i64) (.pr (.int .i64) (.pr (.sl (.int .u8)) (.pr (.sl (.int .u8)) (.pr (.sl (.sl (.int .u8))) .un))))) .un)))))) (.pr (.sl (.sl (.int .u8))) .un)) [true, true, true, true, true, true], .val .bool []]
/-- loop.example/g00790/impl.BlockOf -/
noncomputable def impl_BlockOf (x0 : TLimits) (x1 : THead) (x2 : List (List UInt8)) : Option (RDen o9 × BDen i9) :=
  bnd ((impl_Head_copied x1)) fun r0 =>
    bnd ((impl_copyList x2)) fun r1 =>
      br ((leB ((List.length x2) : Int) 8))
        (bnd ((impl_TreeRoot x2)) fun r2 =>
          bnd ((impl_BlockOk x0 ((r0.1.1.1, (r0.1.1.2.1, (r0.1.1.2.2.1, (r0.1.1.2.2.2.1, (r2.1.1, r0.1.1.2.2.2.2.2))))), (r1.1.1, ())))) fun r3 =>
            br ((Bool.not r3.1.1))
              (some ((((0, (0, (0, (List.nil, (List.nil, ((0, (0, (List.nil, (List.nil, (List.nil, ()))))), ())))))), (List.nil, ())), (Bool.false, ())), ()))
              (some ((((r0.1.1.1, (r0.1.1.2.1, (r0.1.1.2.2.1, (r0.1.1.2.2.2.1, (r2.1.1, r0.1.1.2.2.2.2.2))))), (r1.1.1, ())), (Bool.true, ())), ())))
        (bnd ((impl_BlockOk x0 (r0.1.1, (r1.1.1, ())))) fun r2 =>
          br ((Bool.not r2.1.1))
            (some ((((0, (0, (0, (List.nil, (List.nil, ((0, (0, (List.nil, (List.nil, (List.nil, ()))))), ())))))), (List.nil, ())), (Bool.false, ())), ()))
            (some (((r0.1.1, (r1.1.1, ())), (Bool.true, ())), ())))
noncomputable def g9 (a : InDen i9) : Option (RDen o9 × BDen i9) := impl_BlockOf a.1 a.2.1 a.2.2.1
noncomputable def c9 : Con := mkCon i9 o9 g9
set_option maxRecDepth 100000 in
theorem e9 (y : InDen i9) : g9 y = evF ⟨tyOf tys, el, conOf [(25, c25), (26, c26), (27, c27), (12, c12)]⟩ (fun _ => {}) Try.f9 i9 o9 y := by kernel_rfl
theorem h9 : c9.Holds Try.prog el 9 := holds_of hM (hT _) (consOk_cons h25 (consOk_cons h26 (consOk_cons h27 (consOk_cons h12 consOk_nil)))) (fnOk_of (by kernel_rfl) (by kernel_rfl)) e9
abbrev i31 : List ATy := [.val (.pr (.sl (.int .i64)) (.pr (.sl (.sl (.int .u8))) .un))]
abbrev o31 : List RTy := [.val .bool []]
/-- loop.example/g00790/impl.StackOk -/
noncomputable def impl_StackOk (x0 : TStack) : Option (RDen o31 × BDen i31) :=
  iter (fun y0 : ((Bool × (List Int × (Int × (Int × Unit)))) × (TStack × Unit)) =>
    br ((ltB y0.1.2.2.2.1 y0.1.2.2.1))
      (bnd ((bIdx y0.1.2.1 y0.1.2.2.2.1)) fun r1 =>
        bnd ((impl_within r1 0 20)) fun r2 =>
          br ((Bool.not r2.1.1))
            (some (.inr ((Bool.false, ()), ())))
            (br ((ltB 0 y0.1.2.2.2.1))
              (bnd ((bIdx y0.2.1.1 (w64 (y0.1.2.2.2.1 - 1)))) fun r3 =>
                br ((leB r3 r1))
                  (some (.inr ((Bool.false, ()), ())))
                  (some (.inl ((y0.1.1, (y0.1.2.1, (y0.1.2.2.1, ((w64 (y0.1.2.2.2.1 + 1)), ())))), (y0.2.1, ())))))
              (some (.inl ((y0.1.1, (y0.1.2.1, (y0.1.2.2.1, ((w64 (y0.1.2.2.2.1 + 1)), ())))), (y0.2.1, ()))))))
      (br ((((List.length y0.2.1.1) : Int) == ((List.length y0.2.1.2.1) : Int)))
        (bnd ((impl_areHashes y0.2.1.2.1)) fun r1 =>
          some (.inr ((r1.1.1, ()), ())))
        (some (.inr ((Bool.false, ()), ())))))
    ((Bool.false, (x0.1, (((List.length x0.1) : Int), (0, ())))), (x0, ()))
noncomputable def g31 (a : InDen i31) : Option (RDen o31 × BDen i31) := impl_StackOk a.1
noncomputable def c31 : Con := mkCon i31 o31 g31
set_option maxRecDepth 100000 in
theorem e31 (y : InDen i31) : g31 y = evF ⟨tyOf tys, el, conOf [(40, c40), (46, c46)]⟩ (fun _ => {}) Try.f31 i31 o31 y := by kernel_rfl
theorem h31 : c31.Holds Try.prog el 31 := holds_of hM (hT _) (consOk_cons h40 (consOk_cons h46 consOk_nil)) (fnOk_of (by kernel_rfl) (by kernel_rfl)) e31
abbrev i28 : List ATy := [.val (.pr (.sl (.int .i64)) (.pr (.sl (.sl (.int .u8))) .un)), .val (.sl (.int .u8))]
abbrev o28 : List RTy := [.val (.pr (.sl (.int .i64)) (.pr (.sl (.sl (.int .u8))) .un)) [false, false], .val .bool []]
/-- loop.example/g00790/impl.StackPush -/
noncomputable def impl_StackPush (x0 : TStack) (x1 : List UInt8) : Option (RDen o28 × BDen i28) :=
  bnd ((impl_StackOk x0)) fun r0 =>
    br ((Bool.not r0.1.1))
      (some (((List.nil, (List.nil, ())), (Bool.false, ())), ()))
      (bnd ((impl_areHashes (List.set (List.replicate 1 List.nil) 0 x1))) fun r1 =>
        br ((Bool.not r1.1.1))
          (some (((List.nil, (List.nil, ())), (Bool.false, ())), ()))
          (br ((leB ((List.length (List.replicate 0 0)) + (List.length x0.1)) most))
            (br ((leB ((List.length ((List.replicate 0 0) ++ x0.1)) + (List.length (List.set (List.replicate 1 0) 0 0))) most))
              (bnd ((impl_copyList x0.2.1)) fun r2 =>
                bnd ((impl_copyBytes x1)) fun r3 =>
                  br ((leB ((List.length r2.1.1) + (List.length (List.set (List.replicate 1 List.nil) 0 r3.1.1))) most))
                    (iter (fun y4 : ((Bool × (Int × Unit)) × (TStack × (TStack × Unit))) =>
                      br ((ltB 1 y4.1.2.1))
                        (bnd ((bIdx y4.2.2.1.1 (w64 (y4.1.2.1 - 1)))) fun r5 =>
                          bnd ((bIdx y4.2.2.1.1 (w64 (y4.1.2.1 - 2)))) fun r6 =>
                            br ((r5 == r6))
                              (bnd ((bIdx y4.2.2.1.2.1 (w64 (y4.1.2.1 - 2)))) fun r7 =>
                                bnd ((bIdx y4.2.2.1.2.1 (w64 (y4.1.2.1 - 1)))) fun r8 =>
                                  bnd ((impl_NodeHash r7 r8)) fun r9 =>
                                    bnd ((bIdx y4.2.2.1.2.1 (w64 (y4.1.2.1 - 2)))) fun r10 =>
                                      bnd ((bIdx y4.2.2.1.1 (w64 (y4.1.2.1 - 2)))) fun r11 =>
                                        bnd ((bIdx y4.2.2.1.1 (w64 (y4.1.2.1 - 2)))) fun r12 =>
                                          bnd ((cut (List.set y4.2.2.1.1 (Int.toNat (w64 (y4.1.2.1 - 2))) (w64 (r11 + 1))) 0 (w64 (y4.1.2.1 - 1)))) fun r13 =>
                                            bnd ((cut (List.set y4.2.2.1.2.1 (Int.toNat (w64 (y4.1.2.1 - 2))) r9.1.1) 0 (w64 (y4.1.2.1 - 1)))) fun r14 =>
                                              some (.inl ((y4.1.1, ((w64 (y4.1.2.1 - 1)), ())), ((y4.2.1.1, (y4.2.1.2.1, y4.2.1.2.2)), ((r13, (r14, y4.2.2.1.2.2)), ())))))
                              (bnd ((impl_StackOk y4.2.2.1)) fun r7 =>
                                br ((Bool.not r7.1.1))
                                  (some (.inr (((List.nil, (List.nil, ())), (Bool.false, ())), ())))
                                  (some (.inr ((y4.2.2.1, (Bool.true, ())), ())))))
                        (bnd ((impl_StackOk y4.2.2.1)) fun r5 =>
                          br ((Bool.not r5.1.1))
                            (some (.inr (((List.nil, (List.nil, ())), (Bool.false, ())), ())))
                            (some (.inr ((y4.2.2.1, (Bool.true, ())), ())))))
                      ((Bool.false, (((List.length (((List.replicate 0 0) ++ x0.1) ++ (List.set (List.replicate 1 0) 0 0))) : Int), ())), ((List.nil, (List.nil, ())), (((((List.replicate 0 0) ++ x0.1) ++ (List.set (List.replicate 1 0) 0 0)), ((r2.1.1 ++ (List.set (List.replicate 1 List.nil) 0 r3.1.1)), ())), ()))))
                    none)
              none)
            none))
noncomputable def g28 (a : InDen i28) : Option (RDen o28 × BDen i28) := impl_StackPush a.1 a.2.1
noncomputable def c28 : Con := mkCon i28 o28 g28
set_option maxRecDepth 100000 in
theorem e28 (y : InDen i28) : g28 y = evF ⟨tyOf tys, el, conOf [(31, c31), (46, c46), (26, c26), (20, c20), (33, c33)]⟩ (fun n => if n = 5 then { pa := [(false, 6, 0), (false, 6, 1)] } else {}) Try.f28 i28 o28 y := by kernel_rfl
theorem h28 : c28.Holds Try.prog el 28 := holds_of hM (hT _) (consOk_cons h31 (consOk_cons h46 (consOk_cons h26 (consOk_cons h20 (consOk_cons h33 consOk_nil))))) (fnOk_of (by kernel_rfl) (by kernel_rfl)) e28
abbrev i10 : List ATy := [.val (.sl (.sl (.int .u8)))]
abbrev o10 : List RTy := [.val (.pr (.sl (.int .i64)) (.pr (.sl (.sl (.int .u8))) .un)) [false, false], .val .bool []]
/-- loop.example/g00790/impl.StackOf -/
noncomputable def impl_StackOf (x0 : List (List UInt8)) : Option (RDen o10 × BDen i10) :=
  iter (fun y0 : ((Bool × (List (List UInt8) × (Int × (Int × Unit)))) × (TStack × (TStack × Unit))) =>
    br ((ltB y0.1.2.2.2.1 y0.1.2.2.1))
      (bnd ((bIdx y0.1.2.1 y0.1.2.2.2.1)) fun r1 =>
        bnd ((impl_LeafHash r1)) fun r2 =>
          bnd ((impl_StackPush y0.2.2.1 r2.1.1)) fun r3 =>
            br ((Bool.not r3.1.2.1))
              (some (.inr (((List.nil, (List.nil, ())), (Bool.false, ())), ())))
              (some (.inl ((y0.1.1, (y0.1.2.1, (y0.1.2.2.1, ((w64 (y0.1.2.2.2.1 + 1)), ())))), (y0.2.1, (r3.1.1, ()))))))
      (some (.inr ((y0.2.2.1, (Bool.true, ())), ()))))
    ((Bool.false, (x0, (((List.length x0) : Int), (0, ())))), ((List.nil, (List.nil, ())), ((List.nil, (List.nil, ())), ())))
noncomputable def g10 (a : InDen i10) : Option (RDen o10 × BDen i10) := impl_StackOf a.1
noncomputable def c10 : Con := mkCon i10 o10 g10
set_option maxRecDepth 100000 in
theorem e10 (y : InDen i10) : g10 y = evF ⟨tyOf tys, el, conOf [(29, c29), (28, c28)]⟩ (fun n => if n = 3 then { im := [(false, 4, 0), (false, 4, 1)] } else {}) Try.f10 i10 o10 y := by kernel_rfl
theorem h10 : c10.Holds Try.prog el 10 := holds_of hM (hT _) (consOk_cons h29 (consOk_cons h28 consOk_nil)) (fnOk_of (by kernel_rfl) (by kernel_rfl)) e10
abbrev i30 : List ATy := [.val (.sl (.sl (.int .u8))), .val (.int .i64)]
abbrev o30 : List RTy := [.val (.sl (.sl (.int .u8))) [true], .val .bool []]
/-- loop.example/g00790/impl.PathOf: a round -/
noncomputable def impl_PathOfF (rec : (List (List UInt8)) → Int → Option (RDen o30 × BDen i30)) (x0 : List (List UInt8)) (x1 : Int) : Option (RDen o30 × BDen i30) :=
  bnd ((impl_within x1 0 (w64 (((List.length x0) : Int) - 1)))) fun r0 =>
    br ((Bool.not r0.1.1))
      (some ((List.nil, (Bool.false, ())), ()))
      (br ((((List.length x0) : Int) == 1))
        (some (((List.replicate 0 List.nil), (Bool.true, ())), ()))
        (bnd ((impl_SplitAt ((List.length x0) : Int))) fun r1 =>
          br ((ltB x1 r1.1.1))
            (bnd ((cut x0 0 r1.1.1)) fun r2 =>
              bnd ((rec r2 x1)) fun r3 =>
                bnd ((cut x0 r1.1.1 ((List.length x0) : Int))) fun r4 =>
                  bnd ((impl_TreeRoot r4)) fun r5 =>
                    br ((leB ((List.length r3.1.1) + (List.length (List.set (List.replicate 1 List.nil) 0 r5.1.1))) most))
                      (some (((r3.1.1 ++ (List.set (List.replicate 1 List.nil) 0 r5.1.1)), (Bool.true, ())), ()))
                      none)
            (bnd ((cut x0 r1.1.1 ((List.length x0) : Int))) fun r2 =>
              bnd ((rec r2 (w64 (x1 - r1.1.1)))) fun r3 =>
                bnd ((cut x0 0 r1.1.1)) fun r4 =>
                  bnd ((impl_TreeRoot r4)) fun r5 =>
                    br ((leB ((List.length r3.1.1) + (List.length (List.set (List.replicate 1 List.nil) 0 r5.1.1))) most))
                      (some (((r3.1.1 ++ (List.set (List.replicate 1 List.nil) 0 r5.1.1)), (Bool.true, ())), ()))
                      none)))
noncomputable def impl_PathOfN : Nat → (List (List UInt8)) → Int → Option (RDen o30 × BDen i30)
  | 0 => fun _ _ => none
  | n + 1 => impl_PathOfF (impl_PathOfN n)
def impl_PathOfQ (x0 : List (List UInt8)) (x1 : Int) : Nat := x0.length + 1
noncomputable def impl_PathOf (x0 : List (List UInt8)) (x1 : Int) : Option (RDen o30 × BDen i30) := impl_PathOfN (impl_PathOfQ x0 x1) x0 x1
noncomputable def g30 (r : (List (List UInt8)) → Int → Option (RDen o30 × BDen i30)) (a : InDen i30) : Option (RDen o30 × BDen i30) := r a.1 a.2.1
noncomputable def c30 : Con := mkCon i30 o30 (g30 impl_PathOf)
set_option maxRecDepth 100000 in
theorem e30 (rec : (List (List UInt8)) → Int → Option (RDen o30 × BDen i30)) (y : InDen i30) : g30 (impl_PathOfF rec) y = evF ⟨tyOf tys, el, conOf [(30, mkCon i30 o30 (g30 rec)), (40, c40), (50, c50), (27, c27)]⟩ (fun _ => {}) Try.f30 i30 o30 y := by kernel_rfl
theorem h30 : c30.Holds Try.prog el 30 := holds_fuel (g := fun n a => impl_PathOfN n a.1 a.2.1) (holds_rec hM hT (consOk_cons h40 (consOk_cons h50 (consOk_cons h27 consOk_nil))) (fnOk_of (by kernel_rfl) (by kernel_rfl)) (fun _ => rfl) (fun n y => e30 (impl_PathOfN n) y)) (fun a => impl_PathOfQ a.1 a.2.1)
abbrev i11 : List ATy := [.val (.pr (.int .i64) (.pr (.int .i64) (.pr (.int .i64) (.pr (.int .i64) (.pr (.int .i64) .un))))), .val (.pr (.pr (.int .i64) (.pr (.int .i64) (.pr (.int .i64) (.pr (.sl (.int .u8)) (.pr (.sl (.int .u8)) (.pr (.pr (.int .i64) (.pr (.int .i64) (.pr (.sl (.int .u8)) (.pr (.sl (.int .u8)) (.pr (.sl (.sl (.int .u8))) .un))))) .un)))))) (.pr (.sl (.sl (.int .u8))) .un)), .val (.int .i64)]
abbrev o11 : List RTy := [.val (.sl (.sl (.int .u8))) [true], .val .bool []]
/-- loop.example/g00790/impl.BlockPath -/
noncomputable def impl_BlockPath (x0 : TLimits) (x1 : TBlock) (x2 : Int) : Option (RDen o11 × BDen i11) :=
  bnd ((impl_BlockOk x0 x1)) fun r0 =>
    br ((Bool.not r0.1.1))
      (some ((List.nil, (Bool.false, ())), ()))
      (bnd ((impl_PathOf x1.2.1 x2)) fun r1 =>
        some ((r1.1.1, (r1.1.2.1, ())), ()))
noncomputable def g11 (a : InDen i11) : Option (RDen o11 × BDen i11) := impl_BlockPath a.1 a.2.1 a.2.2.1
noncomputable def c11 : Con := mkCon i11 o11 g11
set_option maxRecDepth 100000 in
theorem e11 (y : InDen i11) : g11 y = evF ⟨tyOf tys, el, conOf [(12, c12), (30, c30)]⟩ (fun _ => {}) Try.f11 i11 o11 y := by kernel_rfl
theorem h11 : c11.Holds Try.prog el 11 := holds_of hM (hT _) (consOk_cons h12 (consOk_cons h30 consOk_nil)) (fnOk_of (by kernel_rfl) (by kernel_rfl)) e11
abbrev i14 : List ATy := [.val (.pr (.sl (.int .i64)) (.pr (.sl (.sl (.int .u8))) .un))]
abbrev o14 : List RTy := [.val (.sl (.int .u8)) [true]]
/-- loop.example/g00790/impl.StackRoot -/
noncomputable def impl_StackRoot (x0 : TStack) : Option (RDen o14 × BDen i14) :=
  bnd ((impl_StackOk x0)) fun r0 =>
    br ((Bool.not r0.1.1))
      (some ((List.nil, ()), ()))
      (br ((((List.length x0.2.1) : Int) == 0))
        (bnd ((impl_Sha List.nil)) fun r1 =>
          some ((r1.1.1, ()), ()))
        (bnd ((bIdx x0.2.1 (w64 (((List.length x0.2.1) : Int) - 1)))) fun r1 =>
          bnd ((impl_copyBytes r1)) fun r2 =>
            iter (fun y3 : (TErrorAddressString × (TStack × Unit)) =>
              br ((leB 0 y3.1.2.1))
                (bnd ((bIdx y3.2.1.2.1 y3.1.2.1)) fun r4 =>
                  bnd ((impl_NodeHash r4 y3.1.1)) fun r5 =>
                    some (.inl ((r5.1.1, ((w64 (y3.1.2.1 - 1)), ())), (y3.2.1, ()))))
                (some (.inr ((y3.1.1, ()), ()))))
              ((r2.1.1, ((w64 (((List.length x0.2.1) : Int) - 2)), ())), (x0, ()))))
noncomputable def g14 (a : InDen i14) : Option (RDen o14 × BDen i14) := impl_StackRoot a.1
noncomputable def c14 : Con := mkCon i14 o14 g14
set_option maxRecDepth 100000 in
theorem e14 (y : InDen i14) : g14 y = evF ⟨tyOf tys, el, conOf [(31, c31), (32, c32), (20, c20), (33, c33)]⟩ (fun _ => {}) Try.f14 i14 o14 y := by kernel_rfl
theorem h14 : c14.Holds Try.prog el 14 := holds_of hM (hT _) (consOk_cons h31 (consOk_cons h32 (consOk_cons h20 (consOk_cons h33 consOk_nil)))) (fnOk_of (by kernel_rfl) (by kernel_rfl)) e14
abbrev i54 : List ATy := [.val (.int .i64), .val (.int .i64)]
abbrev o54 : List RTy := [.val (.int .i64) []]
/-- loop.example/g00790/impl.PathLen: a round -/
noncomputable def impl_PathLenF (rec : Int → Int → Option (RDen o54 × BDen i54)) (x0 : Int) (x1 : Int) : Option (RDen o54 × BDen i54) :=
  br ((ltB x1 2))
    (some ((0, ()), ()))
    (br ((ltB 1048576 x1))
      (some ((0, ()), ()))
      (bnd ((impl_within x0 0 (w64 (x1 - 1)))) fun r0 =>
        br ((Bool.not r0.1.1))
          (some ((0, ()), ()))
          (bnd ((impl_SplitAt x1)) fun r1 =>
            br ((ltB x0 r1.1.1))
              (bnd ((rec x0 r1.1.1)) fun r2 =>
                some (((w64 (1 + r2.1.1)), ()), ()))
              (bnd ((rec (w64 (x0 - r1.1.1)) (w64 (x1 - r1.1.1)))) fun r2 =>
                some (((w64 (1 + r2.1.1)), ()), ())))))
noncomputable def impl_PathLenN : Nat → Int → Int → Option (RDen o54 × BDen i54)
  | 0 => fun _ _ => none
  | n + 1 => impl_PathLenF (impl_PathLenN n)
def impl_PathLenQ (x0 : Int) (x1 : Int) : Nat := x1.toNat + 1
noncomputable def impl_PathLen (x0 : Int) (x1 : Int) : Option (RDen o54 × BDen i54) := impl_PathLenN (impl_PathLenQ x0 x1) x0 x1
noncomputable def g54 (r : Int → Int → Option (RDen o54 × BDen i54)) (a : InDen i54) : Option (RDen o54 × BDen i54) := r a.1 a.2.1
noncomputable def c54 : Con := mkCon i54 o54 (g54 impl_PathLen)
set_option maxRecDepth 100000 in
theorem e54 (rec : Int → Int → Option (RDen o54 × BDen i54)) (y : InDen i54) : g54 (impl_PathLenF rec) y = evF ⟨tyOf tys, el, conOf [(54, mkCon i54 o54 (g54 rec)), (40, c40), (50, c50)]⟩ (fun _ => {}) Try.f54 i54 o54 y := by kernel_rfl
theorem h54 : c54.Holds Try.prog el 54 := holds_fuel (g := fun n a => impl_PathLenN n a.1 a.2.1) (holds_rec hM hT (consOk_cons h40 (consOk_cons h50 consOk_nil)) (fnOk_of (by kernel_rfl) (by kernel_rfl)) (fun _ => rfl) (fun n y => e54 (impl_PathLenN n) y)) (fun a => impl_PathLenQ a.1 a.2.1)
abbrev i55 : List ATy := [.val (.sl (.int .u8)), .val (.int .i64), .val (.int .i64), .val (.sl (.sl (.int .u8)))]
abbrev o55 : List RTy := [.val (.sl (.int .u8)) [true]]
/-- loop.example/g00790/impl.pathRoot: a round -/
noncomputable def impl_pathRootF (rec : (List UInt8) → Int → Int → (List (List UInt8)) → Option (RDen o55 × BDen i55)) (x0 : List UInt8) (x1 : Int) (x2 : Int) (x3 : List (List UInt8)) : Option (RDen o55 × BDen i55) :=
  br ((x2 == 1))
    (bnd ((impl_copyBytes x0)) fun r0 =>
      some ((r0.1.1, ()), ()))
    (bnd ((impl_SplitAt x2)) fun r0 =>
      br ((ltB x1 r0.1.1))
        (bnd ((cut x3 0 (w64 (((List.length x3) : Int) - 1)))) fun r1 =>
          bnd ((rec x0 x1 r0.1.1 r1)) fun r2 =>
            bnd ((bIdx x3 (w64 (((List.length x3) : Int) - 1)))) fun r3 =>
              bnd ((impl_NodeHash r2.1.1 r3)) fun r4 =>
                some ((r4.1.1, ()), ()))
        (bnd ((bIdx x3 (w64 (((List.length x3) : Int) - 1)))) fun r1 =>
          bnd ((cut x3 0 (w64 (((List.length x3) : Int) - 1)))) fun r2 =>
            bnd ((rec x0 (w64 (x1 - r0.1.1)) (w64 (x2 - r0.1.1)) r2)) fun r3 =>
              bnd ((impl_NodeHash r1 r3.1.1)) fun r4 =>
                some ((r4.1.1, ()), ())))
noncomputable def impl_pathRootN : Nat → (List UInt8) → Int → Int → (List (List UInt8)) → Option (RDen o55 × BDen i55)
  | 0 => fun _ _ _ _ => none
  | n + 1 => impl_pathRootF (impl_pathRootN n)
def impl_pathRootQ (x0 : List UInt8) (x1 : Int) (x2 : Int) (x3 : List (List UInt8)) : Nat := x2.toNat + 1
noncomputable def impl_pathRoot (x0 : List UInt8) (x1 : Int) (x2 : Int) (x3 : List (List UInt8)) : Option (RDen o55 × BDen i55) := impl_pathRootN (impl_pathRootQ x0 x1 x2 x3) x0 x1 x2 x3
noncomputable def g55 (r : (List UInt8) → Int → Int → (List (List UInt8)) → Option (RDen o55 × BDen i55)) (a : InDen i55) : Option (RDen o55 × BDen i55) := r a.1 a.2.1 a.2.2.1 a.2.2.2.1
noncomputable def c55 : Con := mkCon i55 o55 (g55 impl_pathRoot)
set_option maxRecDepth 100000 in
theorem e55 (rec : (List UInt8) → Int → Int → (List (List UInt8)) → Option (RDen o55 × BDen i55)) (y : InDen i55) : g55 (impl_pathRootF rec) y = evF ⟨tyOf tys, el, conOf [(55, mkCon i55 o55 (g55 rec)), (20, c20), (50, c50), (33, c33)]⟩ (fun _ => {}) Try.f55 i55 o55 y := by kernel_rfl
theorem h55 : c55.Holds Try.prog el 55 := holds_fuel (g := fun n a => impl_pathRootN n a.1 a.2.1 a.2.2.1 a.2.2.2.1) (holds_rec hM hT (consOk_cons h20 (consOk_cons h50 (consOk_cons h33 consOk_nil))) (fnOk_of (by kernel_rfl) (by kernel_rfl)) (fun _ => rfl) (fun n y => e55 (impl_pathRootN n) y)) (fun a => impl_pathRootQ a.1 a.2.1 a.2.2.1 a.2.2.2.1)
abbrev i34 : List ATy := [.val (.sl (.int .u8)), .val (.int .i64), .val (.int .i64), .val (.sl (.sl (.int .u8)))]
abbrev o34 : List RTy := [.val (.sl (.int .u8)) [true], .val .bool []]
/-- loop.example/g00790/impl.PathRoot -/
noncomputable def impl_PathRoot (x0 : List UInt8) (x1 : Int) (x2 : Int) (x3 : List (List UInt8)) : Option (RDen o34 × BDen i34) :=
  bnd ((impl_areHashes (List.set (List.replicate 1 List.nil) 0 x0))) fun r0 =>
    br ((Bool.not r0.1.1))
      (some ((List.nil, (Bool.false, ())), ()))
      (br ((ltB x2 1))
        (some ((List.nil, (Bool.false, ())), ()))
        (br ((ltB 1048576 x2))
          (some ((List.nil, (Bool.false, ())), ()))
          (bnd ((impl_within x1 0 (w64 (x2 - 1)))) fun r1 =>
            br ((Bool.not r1.1.1))
              (some ((List.nil, (Bool.false, ())), ()))
              (bnd ((impl_PathLen x1 x2)) fun r2 =>
                br ((((List.length x3) : Int) != r2.1.1))
                  (some ((List.nil, (Bool.false, ())), ()))
                  (bnd ((impl_areHashes x3)) fun r3 =>
                    br ((Bool.not r3.1.1))
                      (some ((List.nil, (Bool.false, ())), ()))
                      (bnd ((impl_pathRoot x0 x1 x2 x3)) fun r4 =>
                        some ((r4.1.1, (Bool.true, ())), ())))))))
noncomputable def g34 (a : InDen i34) : Option (RDen o34 × BDen i34) := impl_PathRoot a.1 a.2.1 a.2.2.1 a.2.2.2.1
noncomputable def c34 : Con := mkCon i34 o34 g34
set_option maxRecDepth 100000 in
theorem e34 (y : InDen i34) : g34 y = evF ⟨tyOf tys, el, conOf [(46, c46), (40, c40), (54, c54), (55, c55)]⟩ (fun _ => {}) Try.f34 i34 o34 y := by kernel_rfl
theorem h34 : c34.Holds Try.prog el 34 := holds_of hM (hT _) (consOk_cons h46 (consOk_cons h40 (consOk_cons h54 (consOk_cons h55 consOk_nil)))) (fnOk_of (by kernel_rfl) (by kernel_rfl)) e34
abbrev i15 : List ATy := [.val (.sl (.int .u8)), .val (.int .i64), .val (.int .i64), .val (.sl (.sl (.int .u8))), .val (.sl (.int .u8))]
abbrev o15 : List RTy := [.val .bool []]
/-- loop.example/g00790/impl.PathOk -/
noncomputable def impl_PathOk (x0 : List UInt8) (x1 : Int) (x2 : Int) (x3 : List (List UInt8)) (x4 : List UInt8) : Option (RDen o15 × BDen i15) :=
  bnd ((impl_LeafHash x0)) fun r0 =>
    bnd ((impl_PathRoot r0.1.1 x1 x2 x3)) fun r1 =>
      br (r1.1.2.1)
        (bnd ((impl_SameBytes r1.1.1 x4)) fun r2 =>
          some ((r2.1.1, ()), ()))
        (some ((Bool.false, ()), ()))
noncomputable def g15 (a : InDen i15) : Option (RDen o15 × BDen i15) := impl_PathOk a.1 a.2.1 a.2.2.1 a.2.2.2.1 a.2.2.2.2.1
noncomputable def c15 : Con := mkCon i15 o15 g15
set_option maxRecDepth 100000 in
theorem e15 (y : InDen i15) : g15 y = evF ⟨tyOf tys, el, conOf [(29, c29), (34, c34), (13, c13)]⟩ (fun _ => {}) Try.f15 i15 o15 y := by kernel_rfl
theorem h15 : c15.Holds Try.prog el 15 := holds_of hM (hT _) (consOk_cons h29 (consOk_cons h34 (consOk_cons h13 consOk_nil))) (fnOk_of (by kernel_rfl) (by kernel_rfl)) e15
abbrev i3 : List ATy := [.val (.sl (.int .u8))]
abbrev o3 : List RTy := [.val .bool []]
/-- loop.example/g00790/laws.FnBlock -/
noncomputable def laws_FnBlock (x0 : List UInt8) : Option (RDen o3 × BDen i3) :=
  br ((ltB 1048576 ((List.length x0) : Int)))
    (some ((Bool.true, ()), ()))
    (bnd ((spec_MakeLimits x0)) fun r0 =>
      bnd ((spec_MakeList x0)) fun r1 =>
        bnd ((spec_MakeTable x0)) fun r2 =>
          bnd ((spec_MakeHash x0 1)) fun r3 =>
            bnd ((impl_FirstHead (((List.length r2.1.2.1.1) : Int), (40, (8, r0.1.1.2.2.2))) r2.1.2.1 5 r3.1.1)) fun r4 =>
              bnd ((impl_BlockOf (((List.length r2.1.2.1.1) : Int), (40, (8, r0.1.1.2.2.2))) r4.1.1 r1.1.1)) fun r5 =>
                br ((Bool.not r4.1.2.1))
                  (some ((Bool.false, ()), ()))
                  (br ((Bool.not (r5.1.2.1 == (leB ((List.length r1.1.1) : Int) 8))))
                    (some ((Bool.false, ()), ()))
                    (br ((Bool.not r5.1.2.1))
                      (some ((Bool.true, ()), ()))
                      (bnd ((impl_StackOf r1.1.1)) fun r6 =>
                        bnd ((impl_BlockPath (((List.length r2.1.2.1.1) : Int), (40, (8, r0.1.1.2.2.2))) r5.1.1 0)) fun r7 =>
                          bnd ((impl_BlockOk (((List.length r2.1.2.1.1) : Int), (40, (8, r0.1.1.2.2.2))) r5.1.1)) fun r8 =>
                            br (r8.1.1)
                              (bnd ((impl_StackRoot r6.1.1)) fun r9 =>
                                bnd ((impl_SameBytes r5.1.1.1.2.2.2.2.1 r9.1.1)) fun r10 =>
                                  br (r10.1.1)
                                    (br (r7.1.2.1)
                                      (bnd ((bIdx r1.1.1 0)) fun r11 =>
                                        bnd ((impl_PathOk r11 0 ((List.length r1.1.1) : Int) r7.1.1 r5.1.1.1.2.2.2.2.1)) fun r12 =>
                                          some ((r12.1.1, ()), ()))
                                      (some ((Bool.false, ()), ())))
                                    (some ((Bool.false, ()), ())))
                              (some ((Bool.false, ()), ()))))))
noncomputable def g3 (a : InDen i3) : Option (RDen o3 × BDen i3) := laws_FnBlock a.1
noncomputable def c3 : Con := mkCon i3 o3 g3
set_option maxRecDepth 100000 in
theorem e3 (y : InDen i3) : g3 y = evF ⟨tyOf tys, el, conOf [(4, c4), (5, c5), (6, c6), (8, c8), (7, c7), (9, c9), (10, c10), (11, c11), (12, c12), (14, c14), (13, c13), (15, c15)]⟩ (fun _ => {}) Try.f3 i3 o3 y := by kernel_rfl
theorem h3 : c3.Holds Try.prog el 3 := holds_of hM (hT _) (consOk_cons h4 (consOk_cons h5 (consOk_cons h6 (consOk_cons h8 (consOk_cons h7 (consOk_cons h9 (consOk_cons h10 (consOk_cons h11 (consOk_cons h12 (consOk_cons h14 (consOk_cons h13 (consOk_cons h15 consOk_nil)))))))))))) (fnOk_of (by kernel_rfl) (by kernel_rfl)) e3
end Go.Proofs.Ytlehbecajmjgkaa.F
