import Derived.Test.YtdiphholophdcaaDoorXKTrED
set_option linter.all false
open Go Go.Ab
namespace Go.Proofs.YtdiphholophdcaaDoor.T
/-! auklet/aukletlaw05.EreBack -/
noncomputable def t7x0 (i0 : Int) (i1 : Int) (i2 : Int) (i3 : Int) (i4 : Int) (i5 : Int) (i6 : Int) (l7 : List AV) : Tree :=
  .need ((AV.lows 0 l7) = Bool.true) <|
  .call 19 0 [(.int .i64 i0), (.int .u64 i1), (.int .u64 i2), (.int .u64 i3), (.int .u64 i4), (.int .i64 i5), (.int .i64 i6), (.sl l7)] fun o =>
    outT o19x0 o (fun (b8 : Bool) =>
    .nm (Bool.not b8) fun (b9 : Bool) =>
    .ite b9 (.call 20 0 [] fun o =>
        outT o20x0 o (fun (b10 : Bool) =>
        .done ((.ret ((.bool b10), .no)), ⟨[], ([] : List Nat)⟩))
         (.fail))
      (.need ((AV.lows 0 l7) = Bool.true) <|
      .call 21 0 [(.int .i64 i0), (.int .u64 i1), (.int .u64 i2), (.int .u64 i3), (.int .u64 i4), (.int .i64 i5), (.int .i64 i6), (.sl l7), (.int .i64 (-(1 : Int))), (.int .i64 (1 : Int))] fun o =>
        outT o21x0 o (fun (b11 : Bool) =>
        .nm (Bool.not b11) fun (b12 : Bool) =>
        .ite b12 (.call 20 0 [] fun o =>
            outT o20x0 o (fun (b13 : Bool) =>
            .done ((.ret ((.bool b13), .no)), ⟨[], ([] : List Nat)⟩))
             (.fail))
          (.need ((AV.lows 0 l7) = Bool.true) <|
          .call 22 0 [(.int .i64 i0), (.int .u64 i1), (.int .u64 i2), (.int .u64 i3), (.int .u64 i4), (.int .i64 i5), (.int .i64 i6), (.sl l7)] fun o =>
            outT o22x0 o (fun (s14 : List UInt8) =>
            .call 27 0 [(.str s14)] fun o =>
              outT o27x0 o (fun (i15 : Int) (i16 : Int) (i17 : Int) (i18 : Int) (i19 : Int) (i20 : Int) (i21 : Int) (l22 : List AV) (i23 : Int) (i24 : Int) =>
              .ite (AV.low 0 (.agg [(.int .i64 i15), (.int .u64 i16), (.int .u64 i17), (.int .u64 i18), (.int .u64 i19), (.int .i64 i20), (.int .i64 i21), (.sl l22)])) (.nm i23 fun (r25 : Int) =>
                .nm i24 fun (r26 : Int) =>
                .need ((AV.lows 0 l22) = Bool.true) <|
                .nm (((List.length s14) : Nat) : Int) fun (r27 : Int) =>
                .nm (decide (r27 > (400 : Int))) fun (b28 : Bool) =>
                .ite b28 (.nm (r26 != (0 : Int)) fun (b29 : Bool) =>
                  .ite b29 (.call 20 0 [] fun o =>
                      outT o20x0 o (fun (b30 : Bool) =>
                      .done ((.ret ((.bool b30), .no)), ⟨[], ([] : List Nat)⟩))
                       (.fail))
                    (.done ((.ret ((.bool Bool.false), .no)), ⟨[], ([] : List Nat)⟩)))
                  (.need ((AV.lows 0 l7) = Bool.true) <|
                  .call 28 0 [(.int .i64 i0), (.int .u64 i1), (.int .u64 i2), (.int .u64 i3), (.int .u64 i4), (.int .i64 i5), (.int .i64 i6), (.sl l7)] fun o =>
                    outT o28x0 o (fun (i31 : Int) =>
                    .nm (decide (i31 > (20 : Int))) fun (b32 : Bool) =>
                    .ite b32 (.nm (r26 != (0 : Int)) fun (b33 : Bool) =>
                      .ite b33 (.call 20 0 [] fun o =>
                          outT o20x0 o (fun (b34 : Bool) =>
                          .done ((.ret ((.bool b34), .no)), ⟨[], ([] : List Nat)⟩))
                           (.fail))
                        (.done ((.ret ((.bool Bool.false), .no)), ⟨[], ([] : List Nat)⟩)))
                      (.nm (r26 == (0 : Int)) fun (b35 : Bool) =>
                      .ite b35 (.need ((AV.lows 0 l22) = Bool.true) <|
                        .need ((AV.lows 0 l7) = Bool.true) <|
                        .call 29 0 [(.int .i64 i15), (.int .u64 i16), (.int .u64 i17), (.int .u64 i18), (.int .u64 i19), (.int .i64 i20), (.int .i64 i21), (.sl l22), (.int .i64 i0), (.int .u64 i1), (.int .u64 i2), (.int .u64 i3), (.int .u64 i4), (.int .i64 i5), (.int .i64 i6), (.sl l7)] fun o =>
                          outT o29x0 o (fun (b36 : Bool) =>
                          .ite b36 (.call 20 0 [] fun o =>
                              outT o20x0 o (fun (b37 : Bool) =>
                              .done ((.ret ((.bool b37), .no)), ⟨[], ([] : List Nat)⟩))
                               (.fail))
                            (.done ((.ret ((.bool Bool.false), .no)), ⟨[], ([] : List Nat)⟩)))
                           (.fail))
                        (.done ((.ret ((.bool Bool.false), .no)), ⟨[], ([] : List Nat)⟩))))
                     (.fail)))
                (.fail))
               (.fail))
             (.fail)))
         (.fail)))
     (.fail)
set_option maxRecDepth 20000 in
theorem e7x0 (call : CallFn) (i0 : Int) (i1 : Int) (i2 : Int) (i3 : Int) (i4 : Int) (i5 : Int) (i6 : Int) (l7 : List AV) : lay.tree call 7 d7 0 [(.int .i64 i0), (.int .u64 i1), (.int .u64 i2), (.int .u64 i3), (.int .u64 i4), (.int .i64 i5), (.int .i64 i6), (.sl l7)] = t7x0 i0 i1 i2 i3 i4 i5 i6 l7 := by kernel_rfl
/-! auklet/aukletlaw05.Small -/
noncomputable def t19x0 (i0 : Int) (i1 : Int) (i2 : Int) (i3 : Int) (i4 : Int) (i5 : Int) (i6 : Int) (l7 : List AV) : Tree :=
  .need ((AV.lows 0 l7) = Bool.true) <|
  .call 45 0 [(.int .i64 i0), (.int .u64 i1), (.int .u64 i2), (.int .u64 i3), (.int .u64 i4), (.int .i64 i5), (.int .i64 i6), (.sl l7), (.int .i64 (150 : Int)), (.int .i64 (400 : Int))] fun o =>
    outT o45x0 o (fun (i8 : Int) =>
    .nm (decide (i8 ≤ (400 : Int))) fun (b9 : Bool) =>
    .done ((.ret ((.bool b9), .no)), ⟨[], ([] : List Nat)⟩))
     (.fail)
set_option maxRecDepth 20000 in
theorem e19x0 (call : CallFn) (i0 : Int) (i1 : Int) (i2 : Int) (i3 : Int) (i4 : Int) (i5 : Int) (i6 : Int) (l7 : List AV) : lay.tree call 19 d19 0 [(.int .i64 i0), (.int .u64 i1), (.int .u64 i2), (.int .u64 i3), (.int .u64 i4), (.int .i64 i5), (.int .i64 i6), (.sl l7)] = t19x0 i0 i1 i2 i3 i4 i5 i6 l7 := by kernel_rfl
theorem s19x0 (b0 : Bool) (g : Bool → Tree) (els : Tree) : outT o19x0 ((.ret ((.bool b0), .no)), ⟨[], ([] : List Nat)⟩) g els = .need (([] : List Nat) = ([] : List Nat)) (g b0) := rfl
/-! auklet/aukletlaw05.lives -/
noncomputable def t20x0 : Tree :=
  .call 27 0 [(.str ([97, 124, 98, 42] : List UInt8))] fun o =>
    outT o27x0 o (fun (i0 : Int) (i1 : Int) (i2 : Int) (i3 : Int) (i4 : Int) (i5 : Int) (i6 : Int) (l7 : List AV) (i8 : Int) (i9 : Int) =>
    .ite (AV.low 0 (.agg [(.int .i64 i0), (.int .u64 i1), (.int .u64 i2), (.int .u64 i3), (.int .u64 i4), (.int .i64 i5), (.int .i64 i6), (.sl l7)])) (.nm i8 fun (r10 : Int) =>
      .nm i9 fun (r11 : Int) =>
      .need ((AV.lows 0 l7) = Bool.true) <|
      .nm (r10 == (0 : Int)) fun (b12 : Bool) =>
      .ite b12 (.nm (r11 == (0 : Int)) fun (b13 : Bool) =>
        .ite b13 (.nm (i0 == (5 : Int)) fun (b14 : Bool) =>
          .ite b14 (.nm (((List.length l7) : Nat) : Int) fun (r15 : Int) =>
            .nm (r15 == (2 : Int)) fun (b16 : Bool) =>
            .ite b16 (.need ((AV.lows 0 l7) = Bool.true) <|
              .call 22 0 [(.int .i64 i0), (.int .u64 i1), (.int .u64 i2), (.int .u64 i3), (.int .u64 i4), (.int .i64 i5), (.int .i64 i6), (.sl l7)] fun o =>
                outT o22x0 o (fun (s17 : List UInt8) =>
                .nm (s17 == ([91, 97, 93, 124, 91, 98, 93, 42] : List UInt8)) fun (b18 : Bool) =>
                .ite b18 (.need ((AV.lows 0 l7) = Bool.true) <|
                  .call 24 0 [(.int .i64 i0), (.int .u64 i1), (.int .u64 i2), (.int .u64 i3), (.int .u64 i4), (.int .i64 i5), (.int .i64 i6), (.sl l7)] fun o =>
                    outT o24x0 o (fun (b19 : Bool) =>
                    .ite b19 (.need ((AV.lows 0 l7) = Bool.true) <|
                      .call 23 0 [(.int .i64 i0), (.int .u64 i1), (.int .u64 i2), (.int .u64 i3), (.int .u64 i4), (.int .i64 i5), (.int .i64 i6), (.sl l7)] fun o =>
                        outT o23x0 o (fun (i20 : Int) =>
                        .nm (i20 == (0 : Int)) fun (b21 : Bool) =>
                        .done ((.ret ((.bool b21), .no)), ⟨[], ([] : List Nat)⟩))
                         (.fail))
                      (.done ((.ret ((.bool Bool.false), .no)), ⟨[], ([] : List Nat)⟩)))
                     (.fail))
                  (.done ((.ret ((.bool Bool.false), .no)), ⟨[], ([] : List Nat)⟩)))
                 (.fail))
              (.done ((.ret ((.bool Bool.false), .no)), ⟨[], ([] : List Nat)⟩)))
            (.done ((.ret ((.bool Bool.false), .no)), ⟨[], ([] : List Nat)⟩)))
          (.done ((.ret ((.bool Bool.false), .no)), ⟨[], ([] : List Nat)⟩)))
        (.done ((.ret ((.bool Bool.false), .no)), ⟨[], ([] : List Nat)⟩)))
      (.fail))
     (.fail)
set_option maxRecDepth 20000 in
theorem e20x0 (call : CallFn) : lay.tree call 20 d20 0 [] = t20x0 := by kernel_rfl
theorem s20x0 (b0 : Bool) (g : Bool → Tree) (els : Tree) : outT o20x0 ((.ret ((.bool b0), .no)), ⟨[], ([] : List Nat)⟩) g els = .need (([] : List Nat) = ([] : List Nat)) (g b0) := rfl
/-! auklet/aukletref05.Can -/
noncomputable def t21x0 (i0 : Int) (i1 : Int) (i2 : Int) (i3 : Int) (i4 : Int) (i5 : Int) (i6 : Int) (l7 : List AV) (i8 : Int) (i9 : Int) : Tree :=
  .nm (decide (i9 > (100 : Int))) fun (b10 : Bool) =>
  .ite b10 (.jump 1 [(.int .i64 i8), (.int .i64 i9), (.int .i64 i0), (.bool Bool.true), (.int .i64 i0), (.int .u64 i1), (.int .u64 i2), (.int .u64 i3), (.int .u64 i4), (.int .i64 i5), (.int .i64 i6), (.sl l7)])
    (.nm (decide (i0 < (0 : Int))) fun (b11 : Bool) =>
    .ite b11 (.jump 1 [(.int .i64 i8), (.int .i64 i9), (.int .i64 i0), (.bool Bool.true), (.int .i64 i0), (.int .u64 i1), (.int .u64 i2), (.int .u64 i3), (.int .u64 i4), (.int .i64 i5), (.int .i64 i6), (.sl l7)])
      (.nm (decide (i0 > (6 : Int))) fun (b12 : Bool) =>
      .ite b12 (.jump 1 [(.int .i64 i8), (.int .i64 i9), (.int .i64 i0), (.bool Bool.true), (.int .i64 i0), (.int .u64 i1), (.int .u64 i2), (.int .u64 i3), (.int .u64 i4), (.int .i64 i5), (.int .i64 i6), (.sl l7)])
        (.nm (i0 != (1 : Int)) fun (b13 : Bool) =>
        .ite b13 (.nm (Bool.not (Bool.and (i1 == (0 : Int)) (Bool.and (i2 == (0 : Int)) (Bool.and (i3 == (0 : Int)) (Bool.and (i4 == (0 : Int)) Bool.true))))) fun (b14 : Bool) =>
          .ite b14 (.jump 1 [(.int .i64 i8), (.int .i64 i9), (.int .i64 i0), (.bool Bool.true), (.int .i64 i0), (.int .u64 i1), (.int .u64 i2), (.int .u64 i3), (.int .u64 i4), (.int .i64 i5), (.int .i64 i6), (.sl l7)])
            (.nm (i0 != (6 : Int)) fun (b15 : Bool) =>
            .ite b15 (.nm (i5 != (0 : Int)) fun (b16 : Bool) =>
              .ite b16 (.jump 1 [(.int .i64 i8), (.int .i64 i9), (.int .i64 i0), (.bool Bool.true), (.int .i64 i0), (.int .u64 i1), (.int .u64 i2), (.int .u64 i3), (.int .u64 i4), (.int .i64 i5), (.int .i64 i6), (.sl l7)])
                (.nm (i6 != (0 : Int)) fun (b17 : Bool) =>
                .ite b17 (.jump 1 [(.int .i64 i8), (.int .i64 i9), (.int .i64 i0), (.bool Bool.true), (.int .i64 i0), (.int .u64 i1), (.int .u64 i2), (.int .u64 i3), (.int .u64 i4), (.int .i64 i5), (.int .i64 i6), (.sl l7)])
                  (.nm (decide (i0 < (4 : Int))) fun (b18 : Bool) =>
                  .ite b18 (.nm (((List.length l7) : Nat) : Int) fun (r19 : Int) =>
                    .nm (decide (r19 > (0 : Int))) fun (b20 : Bool) =>
                    .ite b20 (.jump 1 [(.int .i64 i8), (.int .i64 i9), (.int .i64 i0), (.bool b20), (.int .i64 i0), (.int .u64 i1), (.int .u64 i2), (.int .u64 i3), (.int .u64 i4), (.int .i64 i5), (.int .i64 i6), (.sl l7)])
                      (.jump 2 [(.int .i64 i8), (.int .i64 i9), (.int .i64 i0), (.bool b20), (.int .i64 i0), (.int .u64 i1), (.int .u64 i2), (.int .u64 i3), (.int .u64 i4), (.int .i64 i5), (.int .i64 i6), (.sl l7)]))
                    (.jump 2 [(.int .i64 i8), (.int .i64 i9), (.int .i64 i0), (.bool Bool.false), (.int .i64 i0), (.int .u64 i1), (.int .u64 i2), (.int .u64 i3), (.int .u64 i4), (.int .i64 i5), (.int .i64 i6), (.sl l7)]))))
              (.nm (decide (i0 < (4 : Int))) fun (b21 : Bool) =>
              .ite b21 (.nm (((List.length l7) : Nat) : Int) fun (r22 : Int) =>
                .nm (decide (r22 > (0 : Int))) fun (b23 : Bool) =>
                .ite b23 (.jump 1 [(.int .i64 i8), (.int .i64 i9), (.int .i64 i0), (.bool b23), (.int .i64 i0), (.int .u64 i1), (.int .u64 i2), (.int .u64 i3), (.int .u64 i4), (.int .i64 i5), (.int .i64 i6), (.sl l7)])
                  (.jump 2 [(.int .i64 i8), (.int .i64 i9), (.int .i64 i0), (.bool b23), (.int .i64 i0), (.int .u64 i1), (.int .u64 i2), (.int .u64 i3), (.int .u64 i4), (.int .i64 i5), (.int .i64 i6), (.sl l7)]))
                (.jump 2 [(.int .i64 i8), (.int .i64 i9), (.int .i64 i0), (.bool Bool.false), (.int .i64 i0), (.int .u64 i1), (.int .u64 i2), (.int .u64 i3), (.int .u64 i4), (.int .i64 i5), (.int .i64 i6), (.sl l7)]))))
          (.nm (i0 != (6 : Int)) fun (b24 : Bool) =>
          .ite b24 (.nm (i5 != (0 : Int)) fun (b25 : Bool) =>
            .ite b25 (.jump 1 [(.int .i64 i8), (.int .i64 i9), (.int .i64 i0), (.bool Bool.true), (.int .i64 i0), (.int .u64 i1), (.int .u64 i2), (.int .u64 i3), (.int .u64 i4), (.int .i64 i5), (.int .i64 i6), (.sl l7)])
              (.nm (i6 != (0 : Int)) fun (b26 : Bool) =>
              .ite b26 (.jump 1 [(.int .i64 i8), (.int .i64 i9), (.int .i64 i0), (.bool Bool.true), (.int .i64 i0), (.int .u64 i1), (.int .u64 i2), (.int .u64 i3), (.int .u64 i4), (.int .i64 i5), (.int .i64 i6), (.sl l7)])
                (.nm (decide (i0 < (4 : Int))) fun (b27 : Bool) =>
                .ite b27 (.nm (((List.length l7) : Nat) : Int) fun (r28 : Int) =>
                  .nm (decide (r28 > (0 : Int))) fun (b29 : Bool) =>
                  .ite b29 (.jump 1 [(.int .i64 i8), (.int .i64 i9), (.int .i64 i0), (.bool b29), (.int .i64 i0), (.int .u64 i1), (.int .u64 i2), (.int .u64 i3), (.int .u64 i4), (.int .i64 i5), (.int .i64 i6), (.sl l7)])
                    (.jump 2 [(.int .i64 i8), (.int .i64 i9), (.int .i64 i0), (.bool b29), (.int .i64 i0), (.int .u64 i1), (.int .u64 i2), (.int .u64 i3), (.int .u64 i4), (.int .i64 i5), (.int .i64 i6), (.sl l7)]))
                  (.jump 2 [(.int .i64 i8), (.int .i64 i9), (.int .i64 i0), (.bool Bool.false), (.int .i64 i0), (.int .u64 i1), (.int .u64 i2), (.int .u64 i3), (.int .u64 i4), (.int .i64 i5), (.int .i64 i6), (.sl l7)]))))
            (.nm (decide (i0 < (4 : Int))) fun (b30 : Bool) =>
            .ite b30 (.nm (((List.length l7) : Nat) : Int) fun (r31 : Int) =>
              .nm (decide (r31 > (0 : Int))) fun (b32 : Bool) =>
              .ite b32 (.jump 1 [(.int .i64 i8), (.int .i64 i9), (.int .i64 i0), (.bool b32), (.int .i64 i0), (.int .u64 i1), (.int .u64 i2), (.int .u64 i3), (.int .u64 i4), (.int .i64 i5), (.int .i64 i6), (.sl l7)])
                (.jump 2 [(.int .i64 i8), (.int .i64 i9), (.int .i64 i0), (.bool b32), (.int .i64 i0), (.int .u64 i1), (.int .u64 i2), (.int .u64 i3), (.int .u64 i4), (.int .i64 i5), (.int .i64 i6), (.sl l7)]))
              (.jump 2 [(.int .i64 i8), (.int .i64 i9), (.int .i64 i0), (.bool Bool.false), (.int .i64 i0), (.int .u64 i1), (.int .u64 i2), (.int .u64 i3), (.int .u64 i4), (.int .i64 i5), (.int .i64 i6), (.sl l7)]))))))
set_option maxRecDepth 20000 in
theorem e21x0 (call : CallFn) (i0 : Int) (i1 : Int) (i2 : Int) (i3 : Int) (i4 : Int) (i5 : Int) (i6 : Int) (l7 : List AV) (i8 : Int) (i9 : Int) : lay.tree call 21 d21 0 [(.int .i64 i0), (.int .u64 i1), (.int .u64 i2), (.int .u64 i3), (.int .u64 i4), (.int .i64 i5), (.int .i64 i6), (.sl l7), (.int .i64 i8), (.int .i64 i9)] = t21x0 i0 i1 i2 i3 i4 i5 i6 l7 i8 i9 := by kernel_rfl
noncomputable def t21x1 (i0 : Int) (i1 : Int) (i2 : Int) (b3 : Bool) (i4 : Int) (i5 : Int) (i6 : Int) (i7 : Int) (i8 : Int) (i9 : Int) (i10 : Int) (l11 : List AV) : Tree :=
  .done ((.ret ((.bool Bool.false), .no)), ⟨[], ([] : List Nat)⟩)
set_option maxRecDepth 20000 in
theorem e21x1 (call : CallFn) (i0 : Int) (i1 : Int) (i2 : Int) (b3 : Bool) (i4 : Int) (i5 : Int) (i6 : Int) (i7 : Int) (i8 : Int) (i9 : Int) (i10 : Int) (l11 : List AV) : lay.tree call 21 d21 1 [(.int .i64 i0), (.int .i64 i1), (.int .i64 i2), (.bool b3), (.int .i64 i4), (.int .u64 i5), (.int .u64 i6), (.int .u64 i7), (.int .u64 i8), (.int .i64 i9), (.int .i64 i10), (.sl l11)] = t21x1 i0 i1 i2 b3 i4 i5 i6 i7 i8 i9 i10 l11 := by kernel_rfl
noncomputable def t21x2 (i0 : Int) (i1 : Int) (i2 : Int) (b3 : Bool) (i4 : Int) (i5 : Int) (i6 : Int) (i7 : Int) (i8 : Int) (i9 : Int) (i10 : Int) (l11 : List AV) : Tree :=
  .nm (i2 == (0 : Int)) fun (b12 : Bool) =>
  .ite b12 (.nm (i0 == (4 : Int)) fun (b13 : Bool) =>
    .ite b13 (.jump 3 [(.int .i64 i1), (.int .i64 i2), (.bool b3), (.bool Bool.true), (.int .i64 i4), (.int .u64 i5), (.int .u64 i6), (.int .u64 i7), (.int .u64 i8), (.int .i64 i9), (.int .i64 i10), (.sl l11)])
      (.nm (i2 == (4 : Int)) fun (b14 : Bool) =>
      .ite b14 (.nm (i2 == i0) fun (b15 : Bool) =>
        .ite b15 (.jump 3 [(.int .i64 i1), (.int .i64 i2), (.bool b3), (.bool Bool.true), (.int .i64 i4), (.int .u64 i5), (.int .u64 i6), (.int .u64 i7), (.int .u64 i8), (.int .i64 i9), (.int .i64 i10), (.sl l11)])
          (.nm (((List.length l11) : Nat) : Int) fun (r16 : Int) =>
          .nm (decide (r16 < (2 : Int))) fun (b17 : Bool) =>
          .ite b17 (.jump 3 [(.int .i64 i1), (.int .i64 i2), (.bool b3), (.bool b17), (.int .i64 i4), (.int .u64 i5), (.int .u64 i6), (.int .u64 i7), (.int .u64 i8), (.int .i64 i9), (.int .i64 i10), (.sl l11)])
            (.jump 4 [(.int .i64 i1), (.int .i64 i2), (.bool b3), (.bool b17), (.int .i64 i4), (.int .u64 i5), (.int .u64 i6), (.int .u64 i7), (.int .u64 i8), (.int .i64 i9), (.int .i64 i10), (.sl l11)])))
        (.nm (i2 == (5 : Int)) fun (b18 : Bool) =>
        .ite b18 (.nm (i2 == i0) fun (b19 : Bool) =>
          .ite b19 (.jump 3 [(.int .i64 i1), (.int .i64 i2), (.bool b3), (.bool Bool.true), (.int .i64 i4), (.int .u64 i5), (.int .u64 i6), (.int .u64 i7), (.int .u64 i8), (.int .i64 i9), (.int .i64 i10), (.sl l11)])
            (.nm (((List.length l11) : Nat) : Int) fun (r20 : Int) =>
            .nm (decide (r20 < (2 : Int))) fun (b21 : Bool) =>
            .ite b21 (.jump 3 [(.int .i64 i1), (.int .i64 i2), (.bool b3), (.bool b21), (.int .i64 i4), (.int .u64 i5), (.int .u64 i6), (.int .u64 i7), (.int .u64 i8), (.int .i64 i9), (.int .i64 i10), (.sl l11)])
              (.jump 4 [(.int .i64 i1), (.int .i64 i2), (.bool b3), (.bool b21), (.int .i64 i4), (.int .u64 i5), (.int .u64 i6), (.int .u64 i7), (.int .u64 i8), (.int .i64 i9), (.int .i64 i10), (.sl l11)])))
          (.jump 4 [(.int .i64 i1), (.int .i64 i2), (.bool b3), (.bool Bool.false), (.int .i64 i4), (.int .u64 i5), (.int .u64 i6), (.int .u64 i7), (.int .u64 i8), (.int .i64 i9), (.int .i64 i10), (.sl l11)]))))
    (.nm (i2 == (4 : Int)) fun (b22 : Bool) =>
    .ite b22 (.nm (i2 == i0) fun (b23 : Bool) =>
      .ite b23 (.jump 3 [(.int .i64 i1), (.int .i64 i2), (.bool b3), (.bool Bool.true), (.int .i64 i4), (.int .u64 i5), (.int .u64 i6), (.int .u64 i7), (.int .u64 i8), (.int .i64 i9), (.int .i64 i10), (.sl l11)])
        (.nm (((List.length l11) : Nat) : Int) fun (r24 : Int) =>
        .nm (decide (r24 < (2 : Int))) fun (b25 : Bool) =>
        .ite b25 (.jump 3 [(.int .i64 i1), (.int .i64 i2), (.bool b3), (.bool b25), (.int .i64 i4), (.int .u64 i5), (.int .u64 i6), (.int .u64 i7), (.int .u64 i8), (.int .i64 i9), (.int .i64 i10), (.sl l11)])
          (.jump 4 [(.int .i64 i1), (.int .i64 i2), (.bool b3), (.bool b25), (.int .i64 i4), (.int .u64 i5), (.int .u64 i6), (.int .u64 i7), (.int .u64 i8), (.int .i64 i9), (.int .i64 i10), (.sl l11)])))
      (.nm (i2 == (5 : Int)) fun (b26 : Bool) =>
      .ite b26 (.nm (i2 == i0) fun (b27 : Bool) =>
        .ite b27 (.jump 3 [(.int .i64 i1), (.int .i64 i2), (.bool b3), (.bool Bool.true), (.int .i64 i4), (.int .u64 i5), (.int .u64 i6), (.int .u64 i7), (.int .u64 i8), (.int .i64 i9), (.int .i64 i10), (.sl l11)])
          (.nm (((List.length l11) : Nat) : Int) fun (r28 : Int) =>
          .nm (decide (r28 < (2 : Int))) fun (b29 : Bool) =>
          .ite b29 (.jump 3 [(.int .i64 i1), (.int .i64 i2), (.bool b3), (.bool b29), (.int .i64 i4), (.int .u64 i5), (.int .u64 i6), (.int .u64 i7), (.int .u64 i8), (.int .i64 i9), (.int .i64 i10), (.sl l11)])
            (.jump 4 [(.int .i64 i1), (.int .i64 i2), (.bool b3), (.bool b29), (.int .i64 i4), (.int .u64 i5), (.int .u64 i6), (.int .u64 i7), (.int .u64 i8), (.int .i64 i9), (.int .i64 i10), (.sl l11)])))
        (.jump 4 [(.int .i64 i1), (.int .i64 i2), (.bool b3), (.bool Bool.false), (.int .i64 i4), (.int .u64 i5), (.int .u64 i6), (.int .u64 i7), (.int .u64 i8), (.int .i64 i9), (.int .i64 i10), (.sl l11)])))
set_option maxRecDepth 20000 in
theorem e21x2 (call : CallFn) (i0 : Int) (i1 : Int) (i2 : Int) (b3 : Bool) (i4 : Int) (i5 : Int) (i6 : Int) (i7 : Int) (i8 : Int) (i9 : Int) (i10 : Int) (l11 : List AV) : lay.tree call 21 d21 2 [(.int .i64 i0), (.int .i64 i1), (.int .i64 i2), (.bool b3), (.int .i64 i4), (.int .u64 i5), (.int .u64 i6), (.int .u64 i7), (.int .u64 i8), (.int .i64 i9), (.int .i64 i10), (.sl l11)] = t21x2 i0 i1 i2 b3 i4 i5 i6 i7 i8 i9 i10 l11 := by kernel_rfl
noncomputable def t21x3 (i0 : Int) (i1 : Int) (b2 : Bool) (b3 : Bool) (i4 : Int) (i5 : Int) (i6 : Int) (i7 : Int) (i8 : Int) (i9 : Int) (i10 : Int) (l11 : List AV) : Tree :=
  .done ((.ret ((.bool Bool.false), .no)), ⟨[], ([] : List Nat)⟩)
set_option maxRecDepth 20000 in
theorem e21x3 (call : CallFn) (i0 : Int) (i1 : Int) (b2 : Bool) (b3 : Bool) (i4 : Int) (i5 : Int) (i6 : Int) (i7 : Int) (i8 : Int) (i9 : Int) (i10 : Int) (l11 : List AV) : lay.tree call 21 d21 3 [(.int .i64 i0), (.int .i64 i1), (.bool b2), (.bool b3), (.int .i64 i4), (.int .u64 i5), (.int .u64 i6), (.int .u64 i7), (.int .u64 i8), (.int .i64 i9), (.int .i64 i10), (.sl l11)] = t21x3 i0 i1 b2 b3 i4 i5 i6 i7 i8 i9 i10 l11 := by kernel_rfl
noncomputable def t21x4 (i0 : Int) (i1 : Int) (b2 : Bool) (b3 : Bool) (i4 : Int) (i5 : Int) (i6 : Int) (i7 : Int) (i8 : Int) (i9 : Int) (i10 : Int) (l11 : List AV) : Tree :=
  .nm (i1 == (6 : Int)) fun (b12 : Bool) =>
  .ite b12 (.nm (((List.length l11) : Nat) : Int) fun (r13 : Int) =>
    .nm (r13 != (1 : Int)) fun (b14 : Bool) =>
    .ite b14 (.jump 5 [(.int .i64 i0), (.int .i64 i1), (.bool b2), (.bool b3), (.bool Bool.true), (.int .i64 i4), (.int .u64 i5), (.int .u64 i6), (.int .u64 i7), (.int .u64 i8), (.int .i64 i9), (.int .i64 i10), (.sl l11)])
      (.nm (decide (i9 < (0 : Int))) fun (b15 : Bool) =>
      .ite b15 (.jump 5 [(.int .i64 i0), (.int .i64 i1), (.bool b2), (.bool b3), (.bool Bool.true), (.int .i64 i4), (.int .u64 i5), (.int .u64 i6), (.int .u64 i7), (.int .u64 i8), (.int .i64 i9), (.int .i64 i10), (.sl l11)])
        (.nm (decide (i9 > (50 : Int))) fun (b16 : Bool) =>
        .ite b16 (.jump 5 [(.int .i64 i0), (.int .i64 i1), (.bool b2), (.bool b3), (.bool Bool.true), (.int .i64 i4), (.int .u64 i5), (.int .u64 i6), (.int .u64 i7), (.int .u64 i8), (.int .i64 i9), (.int .i64 i10), (.sl l11)])
          (.nm (decide (i10 > (50 : Int))) fun (b17 : Bool) =>
          .ite b17 (.jump 5 [(.int .i64 i0), (.int .i64 i1), (.bool b2), (.bool b3), (.bool Bool.true), (.int .i64 i4), (.int .u64 i5), (.int .u64 i6), (.int .u64 i7), (.int .u64 i8), (.int .i64 i9), (.int .i64 i10), (.sl l11)])
            (.nm (decide (i10 < i9)) fun (b18 : Bool) =>
            .ite b18 (.nm (i10 != (-(1 : Int))) fun (b19 : Bool) =>
              .ite b19 (.jump 5 [(.int .i64 i0), (.int .i64 i1), (.bool b2), (.bool b3), (.bool b19), (.int .i64 i4), (.int .u64 i5), (.int .u64 i6), (.int .u64 i7), (.int .u64 i8), (.int .i64 i9), (.int .i64 i10), (.sl l11)])
                (.jump 6 [(.int .i64 i0), (.int .i64 i1), (.bool b2), (.bool b3), (.bool b19), (.int .i64 i4), (.int .u64 i5), (.int .u64 i6), (.int .u64 i7), (.int .u64 i8), (.int .i64 i9), (.int .i64 i10), (.sl l11)]))
              (.jump 6 [(.int .i64 i0), (.int .i64 i1), (.bool b2), (.bool b3), (.bool Bool.false), (.int .i64 i4), (.int .u64 i5), (.int .u64 i6), (.int .u64 i7), (.int .u64 i8), (.int .i64 i9), (.int .i64 i10), (.sl l11)]))))))
    (.jump 6 [(.int .i64 i0), (.int .i64 i1), (.bool b2), (.bool b3), (.bool Bool.false), (.int .i64 i4), (.int .u64 i5), (.int .u64 i6), (.int .u64 i7), (.int .u64 i8), (.int .i64 i9), (.int .i64 i10), (.sl l11)])
set_option maxRecDepth 20000 in
theorem e21x4 (call : CallFn) (i0 : Int) (i1 : Int) (b2 : Bool) (b3 : Bool) (i4 : Int) (i5 : Int) (i6 : Int) (i7 : Int) (i8 : Int) (i9 : Int) (i10 : Int) (l11 : List AV) : lay.tree call 21 d21 4 [(.int .i64 i0), (.int .i64 i1), (.bool b2), (.bool b3), (.int .i64 i4), (.int .u64 i5), (.int .u64 i6), (.int .u64 i7), (.int .u64 i8), (.int .i64 i9), (.int .i64 i10), (.sl l11)] = t21x4 i0 i1 b2 b3 i4 i5 i6 i7 i8 i9 i10 l11 := by kernel_rfl
noncomputable def t21x5 (i0 : Int) (i1 : Int) (b2 : Bool) (b3 : Bool) (b4 : Bool) (i5 : Int) (i6 : Int) (i7 : Int) (i8 : Int) (i9 : Int) (i10 : Int) (i11 : Int) (l12 : List AV) : Tree :=
  .done ((.ret ((.bool Bool.false), .no)), ⟨[], ([] : List Nat)⟩)
set_option maxRecDepth 20000 in
theorem e21x5 (call : CallFn) (i0 : Int) (i1 : Int) (b2 : Bool) (b3 : Bool) (b4 : Bool) (i5 : Int) (i6 : Int) (i7 : Int) (i8 : Int) (i9 : Int) (i10 : Int) (i11 : Int) (l12 : List AV) : lay.tree call 21 d21 5 [(.int .i64 i0), (.int .i64 i1), (.bool b2), (.bool b3), (.bool b4), (.int .i64 i5), (.int .u64 i6), (.int .u64 i7), (.int .u64 i8), (.int .u64 i9), (.int .i64 i10), (.int .i64 i11), (.sl l12)] = t21x5 i0 i1 b2 b3 b4 i5 i6 i7 i8 i9 i10 i11 l12 := by kernel_rfl
noncomputable def t21x6 (i0 : Int) (i1 : Int) (b2 : Bool) (b3 : Bool) (b4 : Bool) (i5 : Int) (i6 : Int) (i7 : Int) (i8 : Int) (i9 : Int) (i10 : Int) (i11 : Int) (l12 : List AV) : Tree :=
  .jump 7 [(.int .i64 i0), (.int .i64 i1), (.int .i64 (0 : Int)), (.bool b2), (.bool b3), (.bool b4), (.int .i64 i5), (.int .u64 i6), (.int .u64 i7), (.int .u64 i8), (.int .u64 i9), (.int .i64 i10), (.int .i64 i11), (.sl l12)]
set_option maxRecDepth 20000 in
theorem e21x6 (call : CallFn) (i0 : Int) (i1 : Int) (b2 : Bool) (b3 : Bool) (b4 : Bool) (i5 : Int) (i6 : Int) (i7 : Int) (i8 : Int) (i9 : Int) (i10 : Int) (i11 : Int) (l12 : List AV) : lay.tree call 21 d21 6 [(.int .i64 i0), (.int .i64 i1), (.bool b2), (.bool b3), (.bool b4), (.int .i64 i5), (.int .u64 i6), (.int .u64 i7), (.int .u64 i8), (.int .u64 i9), (.int .i64 i10), (.int .i64 i11), (.sl l12)] = t21x6 i0 i1 b2 b3 b4 i5 i6 i7 i8 i9 i10 i11 l12 := by kernel_rfl
noncomputable def t21x7 (i0 : Int) (i1 : Int) (i2 : Int) (b3 : Bool) (b4 : Bool) (b5 : Bool) (i6 : Int) (i7 : Int) (i8 : Int) (i9 : Int) (i10 : Int) (i11 : Int) (i12 : Int) (l13 : List AV) : Tree :=
  .nm (((List.length l13) : Nat) : Int) fun (r14 : Int) =>
  .nm (decide (i2 < r14)) fun (b15 : Bool) =>
  .ite b15 (.opn [.int .i64, .int .u64, .int .u64, .int .u64, .int .u64, .int .i64, .int .i64, .sl] (elemAt l13 i2) <| fun (i16 : Int) (i17 : Int) (i18 : Int) (i19 : Int) (i20 : Int) (i21 : Int) (i22 : Int) (l23 : List AV) =>
    .nm (Go.IntKind.wrap .i64 (i0 + (1 : Int))) fun (r24 : Int) =>
    .need ((AV.lows 0 l23) = Bool.true) <|
    .call 21 0 [(.int .i64 i16), (.int .u64 i17), (.int .u64 i18), (.int .u64 i19), (.int .u64 i20), (.int .i64 i21), (.int .i64 i22), (.sl l23), (.int .i64 i1), (.int .i64 r24)] fun o =>
      outT o21x0 o (fun (b25 : Bool) =>
      .nm (Bool.not b25) fun (b26 : Bool) =>
      .ite b26 (.done ((.ret ((.bool Bool.false), .no)), ⟨[], ([] : List Nat)⟩))
        (.nm (Go.IntKind.wrap .i64 (i2 + (1 : Int))) fun (r27 : Int) =>
        .jump 7 [(.int .i64 i0), (.int .i64 i1), (.int .i64 r27), (.bool b3), (.bool b4), (.bool b5), (.int .i64 i6), (.int .u64 i7), (.int .u64 i8), (.int .u64 i9), (.int .u64 i10), (.int .i64 i11), (.int .i64 i12), (.sl l13)]))
       (.fail))
    (.done ((.ret ((.bool Bool.true), .no)), ⟨[], ([] : List Nat)⟩))
set_option maxRecDepth 20000 in
theorem e21x7 (call : CallFn) (i0 : Int) (i1 : Int) (i2 : Int) (b3 : Bool) (b4 : Bool) (b5 : Bool) (i6 : Int) (i7 : Int) (i8 : Int) (i9 : Int) (i10 : Int) (i11 : Int) (i12 : Int) (l13 : List AV) : lay.tree call 21 d21 7 [(.int .i64 i0), (.int .i64 i1), (.int .i64 i2), (.bool b3), (.bool b4), (.bool b5), (.int .i64 i6), (.int .u64 i7), (.int .u64 i8), (.int .u64 i9), (.int .u64 i10), (.int .i64 i11), (.int .i64 i12), (.sl l13)] = t21x7 i0 i1 i2 b3 b4 b5 i6 i7 i8 i9 i10 i11 i12 l13 := by kernel_rfl
theorem s21x0 (b0 : Bool) (g : Bool → Tree) (els : Tree) : outT o21x0 ((.ret ((.bool b0), .no)), ⟨[], ([] : List Nat)⟩) g els = .need (([] : List Nat) = ([] : List Nat)) (g b0) := rfl
/-! auklet/ere.Show -/
noncomputable def t22x0 (i0 : Int) (i1 : Int) (i2 : Int) (i3 : Int) (i4 : Int) (i5 : Int) (i6 : Int) (l7 : List AV) : Tree :=
  .need ((AV.lows 0 l7) = Bool.true) <|
  .call 46 0 [(.int .i64 i0), (.int .u64 i1), (.int .u64 i2), (.int .u64 i3), (.int .u64 i4), (.int .i64 i5), (.int .i64 i6), (.sl l7), (.int .i64 (-(1 : Int))), (.int .i64 (1 : Int))] fun o =>
    outT o46x0 o (fun (b8 : Bool) =>
    .nm (Bool.not b8) fun (b9 : Bool) =>
    .ite b9 (.done ((.ret ((.str ([] : List UInt8)), .no)), ⟨[], ([] : List Nat)⟩))
      (.need ((AV.lows 0 l7) = Bool.true) <|
      .call 47 0 [(.int .i64 i0), (.int .u64 i1), (.int .u64 i2), (.int .u64 i3), (.int .u64 i4), (.int .i64 i5), (.int .i64 i6), (.sl l7)] fun o =>
        outT o47x0 o (fun (s10 : List UInt8) =>
        .done ((.ret ((.str s10), .no)), ⟨[], ([] : List Nat)⟩))
         (.fail)))
     (.fail)
set_option maxRecDepth 20000 in
theorem e22x0 (call : CallFn) (i0 : Int) (i1 : Int) (i2 : Int) (i3 : Int) (i4 : Int) (i5 : Int) (i6 : Int) (l7 : List AV) : lay.tree call 22 d22 0 [(.int .i64 i0), (.int .u64 i1), (.int .u64 i2), (.int .u64 i3), (.int .u64 i4), (.int .i64 i5), (.int .i64 i6), (.sl l7)] = t22x0 i0 i1 i2 i3 i4 i5 i6 l7 := by kernel_rfl
theorem s22x0 (s0 : List UInt8) (g : List UInt8 → Tree) (els : Tree) : outT o22x0 ((.ret ((.str s0), .no)), ⟨[], ([] : List Nat)⟩) g els = .need (([] : List Nat) = ([] : List Nat)) (g s0) := rfl
/-! auklet/ere.Least -/
noncomputable def t23x0 (i0 : Int) (i1 : Int) (i2 : Int) (i3 : Int) (i4 : Int) (i5 : Int) (i6 : Int) (l7 : List AV) : Tree :=
  .need ((AV.lows 0 l7) = Bool.true) <|
  .call 46 0 [(.int .i64 i0), (.int .u64 i1), (.int .u64 i2), (.int .u64 i3), (.int .u64 i4), (.int .i64 i5), (.int .i64 i6), (.sl l7), (.int .i64 (-(1 : Int))), (.int .i64 (1 : Int))] fun o =>
    outT o46x0 o (fun (b8 : Bool) =>
    .nm (Bool.not b8) fun (b9 : Bool) =>
    .ite b9 (.done ((.ret ((.int .i64 (0 : Int)), .no)), ⟨[], ([] : List Nat)⟩))
      (.need ((AV.lows 0 l7) = Bool.true) <|
      .call 48 0 [(.int .i64 i0), (.int .u64 i1), (.int .u64 i2), (.int .u64 i3), (.int .u64 i4), (.int .i64 i5), (.int .i64 i6), (.sl l7)] fun o =>
        outT o48x0 o (fun (i10 : Int) =>
        .done ((.ret ((.int .i64 i10), .no)), ⟨[], ([] : List Nat)⟩))
         (.fail)))
     (.fail)
set_option maxRecDepth 20000 in
theorem e23x0 (call : CallFn) (i0 : Int) (i1 : Int) (i2 : Int) (i3 : Int) (i4 : Int) (i5 : Int) (i6 : Int) (l7 : List AV) : lay.tree call 23 d23 0 [(.int .i64 i0), (.int .u64 i1), (.int .u64 i2), (.int .u64 i3), (.int .u64 i4), (.int .i64 i5), (.int .i64 i6), (.sl l7)] = t23x0 i0 i1 i2 i3 i4 i5 i6 l7 := by kernel_rfl
theorem s23x0 (i0 : Int) (g : Int → Tree) (els : Tree) : outT o23x0 ((.ret ((.int .i64 i0), .no)), ⟨[], ([] : List Nat)⟩) g els = .need (([] : List Nat) = ([] : List Nat)) (g i0) := rfl
/-! auklet/ere.Can -/
noncomputable def t24x0 (i0 : Int) (i1 : Int) (i2 : Int) (i3 : Int) (i4 : Int) (i5 : Int) (i6 : Int) (l7 : List AV) : Tree :=
  .need ((AV.lows 0 l7) = Bool.true) <|
  .call 46 0 [(.int .i64 i0), (.int .u64 i1), (.int .u64 i2), (.int .u64 i3), (.int .u64 i4), (.int .i64 i5), (.int .i64 i6), (.sl l7), (.int .i64 (-(1 : Int))), (.int .i64 (1 : Int))] fun o =>
    outT o46x0 o (fun (b8 : Bool) =>
    .done ((.ret ((.bool b8), .no)), ⟨[], ([] : List Nat)⟩))
     (.fail)
set_option maxRecDepth 20000 in
theorem e24x0 (call : CallFn) (i0 : Int) (i1 : Int) (i2 : Int) (i3 : Int) (i4 : Int) (i5 : Int) (i6 : Int) (l7 : List AV) : lay.tree call 24 d24 0 [(.int .i64 i0), (.int .u64 i1), (.int .u64 i2), (.int .u64 i3), (.int .u64 i4), (.int .i64 i5), (.int .i64 i6), (.sl l7)] = t24x0 i0 i1 i2 i3 i4 i5 i6 l7 := by kernel_rfl
theorem s24x0 (b0 : Bool) (g : Bool → Tree) (els : Tree) : outT o24x0 ((.ret ((.bool b0), .no)), ⟨[], ([] : List Nat)⟩) g els = .need (([] : List Nat) = ([] : List Nat)) (g b0) := rfl
/-! auklet/ere.Parse -/
noncomputable def t27x0 (s0 : List UInt8) : Tree :=
  .nm (((List.length s0) : Nat) : Int) fun (r1 : Int) =>
  .nm (decide (r1 > (400 : Int))) fun (b2 : Bool) =>
  .ite b2 (.need ((AV.lows 0 []) = Bool.true) <|
    .need ((AV.lows 0 []) = Bool.true) <|
    .done ((.ret ((.tup [(.agg [(.int .i64 (0 : Int)), (.int .u64 (0 : Int)), (.int .u64 (0 : Int)), (.int .u64 (0 : Int)), (.int .u64 (0 : Int)), (.int .i64 (0 : Int)), (.int .i64 (0 : Int)), (.sl [])]), (.int .i64 (0 : Int)), (.int .i64 (2 : Int))]), (.agg [.no, .no, .no]))), ⟨[], ([] : List Nat)⟩))
    (.call 53 0 [(.int .i64 (0 : Int)), (.str s0), (.int .i64 (0 : Int))] fun o =>
      outT o53x0 o (fun (i10 : Int) (i11 : Int) (i12 : Int) (i13 : Int) (i14 : Int) (i15 : Int) (i16 : Int) (l17 : List AV) (s18 : List UInt8) (i19 : Int) =>
      .need ((AV.lows 0 l17) = Bool.true) <|
      .need ((AV.lows 0 l17) = Bool.true) <|
      .nm (Bool.not Bool.true) fun (b20 : Bool) =>
      .ite b20 (.nm Bool.false fun (b21 : Bool) =>
        .fail)
        (.need ((AV.lows 0 l17) = Bool.true) <|
        .done ((.ret ((.tup [(.agg [(.int .i64 i10), (.int .u64 i11), (.int .u64 i12), (.int .u64 i13), (.int .u64 i14), (.int .i64 i15), (.int .i64 i16), (.sl l17)]), (.int .i64 (0 : Int)), (.int .i64 (0 : Int))]), (.agg [.no, .no, .no]))), ⟨[], ([] : List Nat)⟩)))
       (outT o53x1 o (fun (i3 : Int) (i4 : Int) (s5 : List UInt8) (i6 : Int) =>
      .nm (Bool.not Bool.false) fun (b7 : Bool) =>
      .ite b7 (.nm Bool.true fun (b8 : Bool) =>
        .nm (Bool.not b8) fun (b9 : Bool) =>
        .ite b9 (.fail)
          (.need ((AV.lows 0 []) = Bool.true) <|
          .need ((((.int .i64 i3), .no) : SV) = ((.int .i64 i3), .no)) <|
          .need ((((.int .i64 i4), .no) : SV) = ((.int .i64 i4), .no)) <|
          .need ((((.int .i64 i4), .no) : SV) = ((.int .i64 i4), .no)) <|
          .need ((AV.lows 0 []) = Bool.true) <|
          .done ((.ret ((.tup [(.agg [(.int .i64 (0 : Int)), (.int .u64 (0 : Int)), (.int .u64 (0 : Int)), (.int .u64 (0 : Int)), (.int .u64 (0 : Int)), (.int .i64 (0 : Int)), (.int .i64 (0 : Int)), (.sl [])]), (.int .i64 i3), (.int .i64 i4)]), (.agg [.no, .no, .no]))), ⟨[], ([] : List Nat)⟩)))
        (.need ((AV.lows 0 []) = Bool.true) <|
        .done ((.ret ((.tup [(.agg [(.int .i64 (0 : Int)), (.int .u64 (0 : Int)), (.int .u64 (0 : Int)), (.int .u64 (0 : Int)), (.int .u64 (0 : Int)), (.int .i64 (0 : Int)), (.int .i64 (0 : Int)), (.sl [])]), (.int .i64 (0 : Int)), (.int .i64 (0 : Int))]), (.agg [.no, .no, .no]))), ⟨[], ([] : List Nat)⟩)))
       (.fail)))
set_option maxRecDepth 20000 in
theorem e27x0 (call : CallFn) (s0 : List UInt8) : lay.tree call 27 d27 0 [(.str s0)] = t27x0 s0 := by kernel_rfl
theorem s27x0 (i0 : Int) (i1 : Int) (i2 : Int) (i3 : Int) (i4 : Int) (i5 : Int) (i6 : Int) (l7 : List AV) (i8 : Int) (i9 : Int) (g : Int → Int → Int → Int → Int → Int → Int → List AV → Int → Int → Tree) (els : Tree) : outT o27x0 ((.ret ((.tup [(.agg [(.int .i64 i0), (.int .u64 i1), (.int .u64 i2), (.int .u64 i3), (.int .u64 i4), (.int .i64 i5), (.int .i64 i6), (.sl l7)]), (.int .i64 i8), (.int .i64 i9)]), (.agg [.no, .no, .no]))), ⟨[], ([] : List Nat)⟩) g els = .need (([] : List Nat) = ([] : List Nat)) (g i0 i1 i2 i3 i4 i5 i6 l7 i8 i9) := rfl
/-! auklet/aukletref05.Nest -/
noncomputable def t28x0 (i0 : Int) (i1 : Int) (i2 : Int) (i3 : Int) (i4 : Int) (i5 : Int) (i6 : Int) (l7 : List AV) : Tree :=
  .jump 1 [(.int .i64 (0 : Int)), (.int .i64 (0 : Int)), (.int .i64 i0), (.int .u64 i1), (.int .u64 i2), (.int .u64 i3), (.int .u64 i4), (.int .i64 i5), (.int .i64 i6), (.sl l7)]
set_option maxRecDepth 20000 in
theorem e28x0 (call : CallFn) (i0 : Int) (i1 : Int) (i2 : Int) (i3 : Int) (i4 : Int) (i5 : Int) (i6 : Int) (l7 : List AV) : lay.tree call 28 d28 0 [(.int .i64 i0), (.int .u64 i1), (.int .u64 i2), (.int .u64 i3), (.int .u64 i4), (.int .i64 i5), (.int .i64 i6), (.sl l7)] = t28x0 i0 i1 i2 i3 i4 i5 i6 l7 := by kernel_rfl
noncomputable def t28x1 (i0 : Int) (i1 : Int) (i2 : Int) (i3 : Int) (i4 : Int) (i5 : Int) (i6 : Int) (i7 : Int) (i8 : Int) (l9 : List AV) : Tree :=
  .nm (((List.length l9) : Nat) : Int) fun (r10 : Int) =>
  .nm (decide (i1 < r10)) fun (b11 : Bool) =>
  .ite b11 (.opn [.int .i64, .int .u64, .int .u64, .int .u64, .int .u64, .int .i64, .int .i64, .sl] (elemAt l9 i1) <| fun (i12 : Int) (i13 : Int) (i14 : Int) (i15 : Int) (i16 : Int) (i17 : Int) (i18 : Int) (l19 : List AV) =>
    .need ((AV.lows 0 l19) = Bool.true) <|
    .call 28 0 [(.int .i64 i12), (.int .u64 i13), (.int .u64 i14), (.int .u64 i15), (.int .u64 i16), (.int .i64 i17), (.int .i64 i18), (.sl l19)] fun o =>
      outT o28x0 o (fun (i20 : Int) =>
      .opn [.int .i64, .int .u64, .int .u64, .int .u64, .int .u64, .int .i64, .int .i64, .sl] (elemAt l9 i1) <| fun (i21 : Int) (i22 : Int) (i23 : Int) (i24 : Int) (i25 : Int) (i26 : Int) (i27 : Int) (l28 : List AV) =>
      .nm (i2 == (4 : Int)) fun (b29 : Bool) =>
      .ite b29 (.nm (i21 == (5 : Int)) fun (b30 : Bool) =>
        .ite b30 (.nm (Go.IntKind.wrap .i64 (i20 + (1 : Int))) fun (r31 : Int) =>
          .nm (decide (r31 > i0)) fun (b32 : Bool) =>
          .ite b32 (.nm (Go.IntKind.wrap .i64 (i1 + (1 : Int))) fun (r33 : Int) =>
            .jump 1 [(.int .i64 r31), (.int .i64 r33), (.int .i64 i2), (.int .u64 i3), (.int .u64 i4), (.int .u64 i5), (.int .u64 i6), (.int .i64 i7), (.int .i64 i8), (.sl l9)])
            (.nm (Go.IntKind.wrap .i64 (i1 + (1 : Int))) fun (r34 : Int) =>
            .jump 1 [(.int .i64 i0), (.int .i64 r34), (.int .i64 i2), (.int .u64 i3), (.int .u64 i4), (.int .u64 i5), (.int .u64 i6), (.int .i64 i7), (.int .i64 i8), (.sl l9)]))
          (.nm (i2 == (6 : Int)) fun (b35 : Bool) =>
          .ite b35 (.nm (i21 == (0 : Int)) fun (b36 : Bool) =>
            .ite b36 (.nm (Go.IntKind.wrap .i64 (i20 + (1 : Int))) fun (r37 : Int) =>
              .nm (decide (r37 > i0)) fun (b38 : Bool) =>
              .ite b38 (.nm (Go.IntKind.wrap .i64 (i1 + (1 : Int))) fun (r39 : Int) =>
                .jump 1 [(.int .i64 r37), (.int .i64 r39), (.int .i64 i2), (.int .u64 i3), (.int .u64 i4), (.int .u64 i5), (.int .u64 i6), (.int .i64 i7), (.int .i64 i8), (.sl l9)])
                (.nm (Go.IntKind.wrap .i64 (i1 + (1 : Int))) fun (r40 : Int) =>
                .jump 1 [(.int .i64 i0), (.int .i64 r40), (.int .i64 i2), (.int .u64 i3), (.int .u64 i4), (.int .u64 i5), (.int .u64 i6), (.int .i64 i7), (.int .i64 i8), (.sl l9)]))
              (.nm (i21 == (4 : Int)) fun (b41 : Bool) =>
              .ite b41 (.nm (Go.IntKind.wrap .i64 (i20 + (1 : Int))) fun (r42 : Int) =>
                .nm (decide (r42 > i0)) fun (b43 : Bool) =>
                .ite b43 (.nm (Go.IntKind.wrap .i64 (i1 + (1 : Int))) fun (r44 : Int) =>
                  .jump 1 [(.int .i64 r42), (.int .i64 r44), (.int .i64 i2), (.int .u64 i3), (.int .u64 i4), (.int .u64 i5), (.int .u64 i6), (.int .i64 i7), (.int .i64 i8), (.sl l9)])
                  (.nm (Go.IntKind.wrap .i64 (i1 + (1 : Int))) fun (r45 : Int) =>
                  .jump 1 [(.int .i64 i0), (.int .i64 r45), (.int .i64 i2), (.int .u64 i3), (.int .u64 i4), (.int .u64 i5), (.int .u64 i6), (.int .i64 i7), (.int .i64 i8), (.sl l9)]))
                (.nm (i21 == (5 : Int)) fun (b46 : Bool) =>
                .ite b46 (.nm (Go.IntKind.wrap .i64 (i20 + (1 : Int))) fun (r47 : Int) =>
                  .nm (decide (r47 > i0)) fun (b48 : Bool) =>
                  .ite b48 (.nm (Go.IntKind.wrap .i64 (i1 + (1 : Int))) fun (r49 : Int) =>
                    .jump 1 [(.int .i64 r47), (.int .i64 r49), (.int .i64 i2), (.int .u64 i3), (.int .u64 i4), (.int .u64 i5), (.int .u64 i6), (.int .i64 i7), (.int .i64 i8), (.sl l9)])
                    (.nm (Go.IntKind.wrap .i64 (i1 + (1 : Int))) fun (r50 : Int) =>
                    .jump 1 [(.int .i64 i0), (.int .i64 r50), (.int .i64 i2), (.int .u64 i3), (.int .u64 i4), (.int .u64 i5), (.int .u64 i6), (.int .i64 i7), (.int .i64 i8), (.sl l9)]))
                  (.nm (decide (i20 > i0)) fun (b51 : Bool) =>
                  .ite b51 (.nm (Go.IntKind.wrap .i64 (i1 + (1 : Int))) fun (r52 : Int) =>
                    .jump 1 [(.int .i64 i20), (.int .i64 r52), (.int .i64 i2), (.int .u64 i3), (.int .u64 i4), (.int .u64 i5), (.int .u64 i6), (.int .i64 i7), (.int .i64 i8), (.sl l9)])
                    (.nm (Go.IntKind.wrap .i64 (i1 + (1 : Int))) fun (r53 : Int) =>
                    .jump 1 [(.int .i64 i0), (.int .i64 r53), (.int .i64 i2), (.int .u64 i3), (.int .u64 i4), (.int .u64 i5), (.int .u64 i6), (.int .i64 i7), (.int .i64 i8), (.sl l9)])))))
            (.nm (decide (i20 > i0)) fun (b54 : Bool) =>
            .ite b54 (.nm (Go.IntKind.wrap .i64 (i1 + (1 : Int))) fun (r55 : Int) =>
              .jump 1 [(.int .i64 i20), (.int .i64 r55), (.int .i64 i2), (.int .u64 i3), (.int .u64 i4), (.int .u64 i5), (.int .u64 i6), (.int .i64 i7), (.int .i64 i8), (.sl l9)])
              (.nm (Go.IntKind.wrap .i64 (i1 + (1 : Int))) fun (r56 : Int) =>
              .jump 1 [(.int .i64 i0), (.int .i64 r56), (.int .i64 i2), (.int .u64 i3), (.int .u64 i4), (.int .u64 i5), (.int .u64 i6), (.int .i64 i7), (.int .i64 i8), (.sl l9)]))))
        (.nm (i2 == (6 : Int)) fun (b57 : Bool) =>
        .ite b57 (.nm (i21 == (0 : Int)) fun (b58 : Bool) =>
          .ite b58 (.nm (Go.IntKind.wrap .i64 (i20 + (1 : Int))) fun (r59 : Int) =>
            .nm (decide (r59 > i0)) fun (b60 : Bool) =>
            .ite b60 (.nm (Go.IntKind.wrap .i64 (i1 + (1 : Int))) fun (r61 : Int) =>
              .jump 1 [(.int .i64 r59), (.int .i64 r61), (.int .i64 i2), (.int .u64 i3), (.int .u64 i4), (.int .u64 i5), (.int .u64 i6), (.int .i64 i7), (.int .i64 i8), (.sl l9)])
              (.nm (Go.IntKind.wrap .i64 (i1 + (1 : Int))) fun (r62 : Int) =>
              .jump 1 [(.int .i64 i0), (.int .i64 r62), (.int .i64 i2), (.int .u64 i3), (.int .u64 i4), (.int .u64 i5), (.int .u64 i6), (.int .i64 i7), (.int .i64 i8), (.sl l9)]))
            (.nm (i21 == (4 : Int)) fun (b63 : Bool) =>
            .ite b63 (.nm (Go.IntKind.wrap .i64 (i20 + (1 : Int))) fun (r64 : Int) =>
              .nm (decide (r64 > i0)) fun (b65 : Bool) =>
              .ite b65 (.nm (Go.IntKind.wrap .i64 (i1 + (1 : Int))) fun (r66 : Int) =>
                .jump 1 [(.int .i64 r64), (.int .i64 r66), (.int .i64 i2), (.int .u64 i3), (.int .u64 i4), (.int .u64 i5), (.int .u64 i6), (.int .i64 i7), (.int .i64 i8), (.sl l9)])
                (.nm (Go.IntKind.wrap .i64 (i1 + (1 : Int))) fun (r67 : Int) =>
                .jump 1 [(.int .i64 i0), (.int .i64 r67), (.int .i64 i2), (.int .u64 i3), (.int .u64 i4), (.int .u64 i5), (.int .u64 i6), (.int .i64 i7), (.int .i64 i8), (.sl l9)]))
              (.nm (i21 == (5 : Int)) fun (b68 : Bool) =>
              .ite b68 (.nm (Go.IntKind.wrap .i64 (i20 + (1 : Int))) fun (r69 : Int) =>
                .nm (decide (r69 > i0)) fun (b70 : Bool) =>
                .ite b70 (.nm (Go.IntKind.wrap .i64 (i1 + (1 : Int))) fun (r71 : Int) =>
                  .jump 1 [(.int .i64 r69), (.int .i64 r71), (.int .i64 i2), (.int .u64 i3), (.int .u64 i4), (.int .u64 i5), (.int .u64 i6), (.int .i64 i7), (.int .i64 i8), (.sl l9)])
                  (.nm (Go.IntKind.wrap .i64 (i1 + (1 : Int))) fun (r72 : Int) =>
                  .jump 1 [(.int .i64 i0), (.int .i64 r72), (.int .i64 i2), (.int .u64 i3), (.int .u64 i4), (.int .u64 i5), (.int .u64 i6), (.int .i64 i7), (.int .i64 i8), (.sl l9)]))
                (.nm (decide (i20 > i0)) fun (b73 : Bool) =>
                .ite b73 (.nm (Go.IntKind.wrap .i64 (i1 + (1 : Int))) fun (r74 : Int) =>
                  .jump 1 [(.int .i64 i20), (.int .i64 r74), (.int .i64 i2), (.int .u64 i3), (.int .u64 i4), (.int .u64 i5), (.int .u64 i6), (.int .i64 i7), (.int .i64 i8), (.sl l9)])
                  (.nm (Go.IntKind.wrap .i64 (i1 + (1 : Int))) fun (r75 : Int) =>
                  .jump 1 [(.int .i64 i0), (.int .i64 r75), (.int .i64 i2), (.int .u64 i3), (.int .u64 i4), (.int .u64 i5), (.int .u64 i6), (.int .i64 i7), (.int .i64 i8), (.sl l9)])))))
          (.nm (decide (i20 > i0)) fun (b76 : Bool) =>
          .ite b76 (.nm (Go.IntKind.wrap .i64 (i1 + (1 : Int))) fun (r77 : Int) =>
            .jump 1 [(.int .i64 i20), (.int .i64 r77), (.int .i64 i2), (.int .u64 i3), (.int .u64 i4), (.int .u64 i5), (.int .u64 i6), (.int .i64 i7), (.int .i64 i8), (.sl l9)])
            (.nm (Go.IntKind.wrap .i64 (i1 + (1 : Int))) fun (r78 : Int) =>
            .jump 1 [(.int .i64 i0), (.int .i64 r78), (.int .i64 i2), (.int .u64 i3), (.int .u64 i4), (.int .u64 i5), (.int .u64 i6), (.int .i64 i7), (.int .i64 i8), (.sl l9)]))))
       (.fail))
    (.done ((.ret ((.int .i64 i0), .no)), ⟨[], ([] : List Nat)⟩))
set_option maxRecDepth 20000 in
theorem e28x1 (call : CallFn) (i0 : Int) (i1 : Int) (i2 : Int) (i3 : Int) (i4 : Int) (i5 : Int) (i6 : Int) (i7 : Int) (i8 : Int) (l9 : List AV) : lay.tree call 28 d28 1 [(.int .i64 i0), (.int .i64 i1), (.int .i64 i2), (.int .u64 i3), (.int .u64 i4), (.int .u64 i5), (.int .u64 i6), (.int .i64 i7), (.int .i64 i8), (.sl l9)] = t28x1 i0 i1 i2 i3 i4 i5 i6 i7 i8 l9 := by kernel_rfl
theorem s28x0 (i0 : Int) (g : Int → Tree) (els : Tree) : outT o28x0 ((.ret ((.int .i64 i0), .no)), ⟨[], ([] : List Nat)⟩) g els = .need (([] : List Nat) = ([] : List Nat)) (g i0) := rfl
/-! auklet/aukletref05.Same -/
noncomputable def t29x0 (i0 : Int) (i1 : Int) (i2 : Int) (i3 : Int) (i4 : Int) (i5 : Int) (i6 : Int) (l7 : List AV) (i8 : Int) (i9 : Int) (i10 : Int) (i11 : Int) (i12 : Int) (i13 : Int) (i14 : Int) (l15 : List AV) : Tree :=
  .nm (i0 != i8) fun (b16 : Bool) =>
  .ite b16 (.done ((.ret ((.bool Bool.false), .no)), ⟨[], ([] : List Nat)⟩))
    (.nm (Bool.not (Bool.and (i1 == i9) (Bool.and (i2 == i10) (Bool.and (i3 == i11) (Bool.and (i4 == i12) Bool.true))))) fun (b17 : Bool) =>
    .ite b17 (.done ((.ret ((.bool Bool.false), .no)), ⟨[], ([] : List Nat)⟩))
      (.nm (i5 != i13) fun (b18 : Bool) =>
      .ite b18 (.done ((.ret ((.bool Bool.false), .no)), ⟨[], ([] : List Nat)⟩))
        (.nm (i6 != i14) fun (b19 : Bool) =>
        .ite b19 (.done ((.ret ((.bool Bool.false), .no)), ⟨[], ([] : List Nat)⟩))
          (.nm (((List.length l7) : Nat) : Int) fun (r20 : Int) =>
          .nm (((List.length l15) : Nat) : Int) fun (r21 : Int) =>
          .nm (r20 != r21) fun (b22 : Bool) =>
          .ite b22 (.done ((.ret ((.bool Bool.false), .no)), ⟨[], ([] : List Nat)⟩))
            (.jump 1 [(.int .i64 (0 : Int)), (.bool b22), (.int .i64 i0), (.int .u64 i1), (.int .u64 i2), (.int .u64 i3), (.int .u64 i4), (.int .i64 i5), (.int .i64 i6), (.sl l7), (.int .i64 i8), (.int .u64 i9), (.int .u64 i10), (.int .u64 i11), (.int .u64 i12), (.int .i64 i13), (.int .i64 i14), (.sl l15)])))))
set_option maxRecDepth 20000 in
theorem e29x0 (call : CallFn) (i0 : Int) (i1 : Int) (i2 : Int) (i3 : Int) (i4 : Int) (i5 : Int) (i6 : Int) (l7 : List AV) (i8 : Int) (i9 : Int) (i10 : Int) (i11 : Int) (i12 : Int) (i13 : Int) (i14 : Int) (l15 : List AV) : lay.tree call 29 d29 0 [(.int .i64 i0), (.int .u64 i1), (.int .u64 i2), (.int .u64 i3), (.int .u64 i4), (.int .i64 i5), (.int .i64 i6), (.sl l7), (.int .i64 i8), (.int .u64 i9), (.int .u64 i10), (.int .u64 i11), (.int .u64 i12), (.int .i64 i13), (.int .i64 i14), (.sl l15)] = t29x0 i0 i1 i2 i3 i4 i5 i6 l7 i8 i9 i10 i11 i12 i13 i14 l15 := by kernel_rfl
noncomputable def t29x1 (i0 : Int) (b1 : Bool) (i2 : Int) (i3 : Int) (i4 : Int) (i5 : Int) (i6 : Int) (i7 : Int) (i8 : Int) (l9 : List AV) (i10 : Int) (i11 : Int) (i12 : Int) (i13 : Int) (i14 : Int) (i15 : Int) (i16 : Int) (l17 : List AV) : Tree :=
  .nm (((List.length l9) : Nat) : Int) fun (r18 : Int) =>
  .nm (decide (i0 < r18)) fun (b19 : Bool) =>
  .ite b19 (.opn [.int .i64, .int .u64, .int .u64, .int .u64, .int .u64, .int .i64, .int .i64, .sl] (elemAt l9 i0) <| fun (i20 : Int) (i21 : Int) (i22 : Int) (i23 : Int) (i24 : Int) (i25 : Int) (i26 : Int) (l27 : List AV) =>
    .opn [.int .i64, .int .u64, .int .u64, .int .u64, .int .u64, .int .i64, .int .i64, .sl] (elemAt l17 i0) <| fun (i28 : Int) (i29 : Int) (i30 : Int) (i31 : Int) (i32 : Int) (i33 : Int) (i34 : Int) (l35 : List AV) =>
    .need ((AV.lows 0 l27) = Bool.true) <|
    .need ((AV.lows 0 l35) = Bool.true) <|
    .call 29 0 [(.int .i64 i20), (.int .u64 i21), (.int .u64 i22), (.int .u64 i23), (.int .u64 i24), (.int .i64 i25), (.int .i64 i26), (.sl l27), (.int .i64 i28), (.int .u64 i29), (.int .u64 i30), (.int .u64 i31), (.int .u64 i32), (.int .i64 i33), (.int .i64 i34), (.sl l35)] fun o =>
      outT o29x0 o (fun (b36 : Bool) =>
      .nm (Bool.not b36) fun (b37 : Bool) =>
      .ite b37 (.done ((.ret ((.bool Bool.false), .no)), ⟨[], ([] : List Nat)⟩))
        (.nm (Go.IntKind.wrap .i64 (i0 + (1 : Int))) fun (r38 : Int) =>
        .jump 1 [(.int .i64 r38), (.bool b1), (.int .i64 i2), (.int .u64 i3), (.int .u64 i4), (.int .u64 i5), (.int .u64 i6), (.int .i64 i7), (.int .i64 i8), (.sl l9), (.int .i64 i10), (.int .u64 i11), (.int .u64 i12), (.int .u64 i13), (.int .u64 i14), (.int .i64 i15), (.int .i64 i16), (.sl l17)]))
       (.fail))
    (.done ((.ret ((.bool Bool.true), .no)), ⟨[], ([] : List Nat)⟩))
set_option maxRecDepth 20000 in
theorem e29x1 (call : CallFn) (i0 : Int) (b1 : Bool) (i2 : Int) (i3 : Int) (i4 : Int) (i5 : Int) (i6 : Int) (i7 : Int) (i8 : Int) (l9 : List AV) (i10 : Int) (i11 : Int) (i12 : Int) (i13 : Int) (i14 : Int) (i15 : Int) (i16 : Int) (l17 : List AV) : lay.tree call 29 d29 1 [(.int .i64 i0), (.bool b1), (.int .i64 i2), (.int .u64 i3), (.int .u64 i4), (.int .u64 i5), (.int .u64 i6), (.int .i64 i7), (.int .i64 i8), (.sl l9), (.int .i64 i10), (.int .u64 i11), (.int .u64 i12), (.int .u64 i13), (.int .u64 i14), (.int .i64 i15), (.int .i64 i16), (.sl l17)] = t29x1 i0 b1 i2 i3 i4 i5 i6 i7 i8 l9 i10 i11 i12 i13 i14 i15 i16 l17 := by kernel_rfl
theorem s29x0 (b0 : Bool) (g : Bool → Tree) (els : Tree) : outT o29x0 ((.ret ((.bool b0), .no)), ⟨[], ([] : List Nat)⟩) g els = .need (([] : List Nat) = ([] : List Nat)) (g b0) := rfl
/-! (*strings.Builder).WriteByte -/
noncomputable def t42x0 (i0 : Int) (s1 : List UInt8) : Tree :=
  .need ((59 = 59) ∧ (5 = 5)) <|
  .need (((0 : Int) ≤ i0) ∧ (i0 < (256 : Int))) <|
  .need (((List.length s1) + 1) ≤ Ab.maxLen) <|
  .need ((Option.some (List.length s1)) = (Option.some (List.length s1))) <|
  .done ((.ret (.nili, .no)), ⟨[[((.bself 59 0), .no), ((.buf 5 (s1 ++ ([(UInt8.ofNat (Int.toNat i0))] : List UInt8))), (.tok 0))]], [(List.length (s1 ++ ([(UInt8.ofNat (Int.toNat i0))] : List UInt8)))]⟩)
set_option maxRecDepth 20000 in
theorem e42x0 (call : CallFn) (i0 : Int) (s1 : List UInt8) : lay.tree call 42 d42 0 [(.int .u8 i0), (.buf 5 s1)] = t42x0 i0 s1 := by kernel_rfl
theorem s42x0 (s0 : List UInt8) (g : List UInt8 → Tree) (els : Tree) : outT o42x0 ((.ret (.nili, .no)), ⟨[[((.bself 59 0), .no), ((.buf 5 s0), (.tok 0))]], [(List.length s0)]⟩) g els = .need ([(List.length s0)] = [(List.length s0)]) (g s0) := rfl
/-! (*strings.Builder).String -/
noncomputable def t44x0 (s0 : List UInt8) : Tree :=
  .need ((Option.some (List.length s0)) = (Option.some (List.length s0))) <|
  .nm (((List.length s0) : Nat) : Int) fun (r1 : Int) =>
  .need (((Option.some (List.length s0)) = (Option.some (List.length s0))) ∧ ((r1 = (((List.length s0) : Nat) : Int)) ∧ ((List.length s0) ≤ Ab.maxLen))) <|
  .need ((((.buf 5 s0), (.tok 0)) : SV) = ((.buf 5 s0), (.tok 0))) <|
  .done ((.ret ((.str s0), .no)), ⟨[[((.bself 59 0), .no), ((.buf 5 s0), (.tok 0))]], [(List.length s0)]⟩)
set_option maxRecDepth 20000 in
theorem e44x0 (call : CallFn) (s0 : List UInt8) : lay.tree call 44 d44 0 [(.buf 5 s0)] = t44x0 s0 := by kernel_rfl
theorem s44x0 (s0 : List UInt8) (s1 : List UInt8) (g : List UInt8 → List UInt8 → Tree) (els : Tree) : outT o44x0 ((.ret ((.str s0), .no)), ⟨[[((.bself 59 0), .no), ((.buf 5 s1), (.tok 0))]], [(List.length s1)]⟩) g els = .need ([(List.length s1)] = [(List.length s1)]) (g s0 s1) := rfl
/-! auklet/aukletref05.Parts -/
noncomputable def t45x0 (i0 : Int) (i1 : Int) (i2 : Int) (i3 : Int) (i4 : Int) (i5 : Int) (i6 : Int) (l7 : List AV) (i8 : Int) (i9 : Int) : Tree :=
  .jump 1 [(.int .i64 i8), (.int .i64 i9), (.int .i64 (1 : Int)), (.int .i64 (0 : Int)), (.int .i64 i0), (.int .u64 i1), (.int .u64 i2), (.int .u64 i3), (.int .u64 i4), (.int .i64 i5), (.int .i64 i6), (.sl l7)]
set_option maxRecDepth 20000 in
theorem e45x0 (call : CallFn) (i0 : Int) (i1 : Int) (i2 : Int) (i3 : Int) (i4 : Int) (i5 : Int) (i6 : Int) (l7 : List AV) (i8 : Int) (i9 : Int) : lay.tree call 45 d45 0 [(.int .i64 i0), (.int .u64 i1), (.int .u64 i2), (.int .u64 i3), (.int .u64 i4), (.int .i64 i5), (.int .i64 i6), (.sl l7), (.int .i64 i8), (.int .i64 i9)] = t45x0 i0 i1 i2 i3 i4 i5 i6 l7 i8 i9 := by kernel_rfl
noncomputable def t45x1 (i0 : Int) (i1 : Int) (i2 : Int) (i3 : Int) (i4 : Int) (i5 : Int) (i6 : Int) (i7 : Int) (i8 : Int) (i9 : Int) (i10 : Int) (l11 : List AV) : Tree :=
  .nm (((List.length l11) : Nat) : Int) fun (r12 : Int) =>
  .nm (decide (i3 < r12)) fun (b13 : Bool) =>
  .ite b13 (.nm (decide (i2 ≤ i1)) fun (b14 : Bool) =>
    .ite b14 (.nm (decide (i0 > (0 : Int))) fun (b15 : Bool) =>
      .ite b15 (.opn [.int .i64, .int .u64, .int .u64, .int .u64, .int .u64, .int .i64, .int .i64, .sl] (elemAt l11 i3) <| fun (i16 : Int) (i17 : Int) (i18 : Int) (i19 : Int) (i20 : Int) (i21 : Int) (i22 : Int) (l23 : List AV) =>
        .nm (Go.IntKind.wrap .i64 (i0 - (1 : Int))) fun (r24 : Int) =>
        .nm (Go.IntKind.wrap .i64 (i1 - i2)) fun (r25 : Int) =>
        .need ((AV.lows 0 l23) = Bool.true) <|
        .call 45 0 [(.int .i64 i16), (.int .u64 i17), (.int .u64 i18), (.int .u64 i19), (.int .u64 i20), (.int .i64 i21), (.int .i64 i22), (.sl l23), (.int .i64 r24), (.int .i64 r25)] fun o =>
          outT o45x0 o (fun (i26 : Int) =>
          .nm (Go.IntKind.wrap .i64 (i2 + i26)) fun (r27 : Int) =>
          .nm (Go.IntKind.wrap .i64 (i3 + (1 : Int))) fun (r28 : Int) =>
          .jump 1 [(.int .i64 i0), (.int .i64 i1), (.int .i64 r27), (.int .i64 r28), (.int .i64 i4), (.int .u64 i5), (.int .u64 i6), (.int .u64 i7), (.int .u64 i8), (.int .i64 i9), (.int .i64 i10), (.sl l11)])
           (.fail))
        (.nm (decide (i0 ≤ (0 : Int))) fun (b29 : Bool) =>
        .ite b29 (.nm (Go.IntKind.wrap .i64 (i1 + (1 : Int))) fun (r30 : Int) =>
          .done ((.ret ((.int .i64 r30), .no)), ⟨[], ([] : List Nat)⟩))
          (.done ((.ret ((.int .i64 i2), .no)), ⟨[], ([] : List Nat)⟩))))
      (.nm (decide (i0 ≤ (0 : Int))) fun (b31 : Bool) =>
      .ite b31 (.nm (Go.IntKind.wrap .i64 (i1 + (1 : Int))) fun (r32 : Int) =>
        .done ((.ret ((.int .i64 r32), .no)), ⟨[], ([] : List Nat)⟩))
        (.done ((.ret ((.int .i64 i2), .no)), ⟨[], ([] : List Nat)⟩))))
    (.nm (decide (i0 ≤ (0 : Int))) fun (b33 : Bool) =>
    .ite b33 (.nm (Go.IntKind.wrap .i64 (i1 + (1 : Int))) fun (r34 : Int) =>
      .done ((.ret ((.int .i64 r34), .no)), ⟨[], ([] : List Nat)⟩))
      (.done ((.ret ((.int .i64 i2), .no)), ⟨[], ([] : List Nat)⟩)))
set_option maxRecDepth 20000 in
theorem e45x1 (call : CallFn) (i0 : Int) (i1 : Int) (i2 : Int) (i3 : Int) (i4 : Int) (i5 : Int) (i6 : Int) (i7 : Int) (i8 : Int) (i9 : Int) (i10 : Int) (l11 : List AV) : lay.tree call 45 d45 1 [(.int .i64 i0), (.int .i64 i1), (.int .i64 i2), (.int .i64 i3), (.int .i64 i4), (.int .u64 i5), (.int .u64 i6), (.int .u64 i7), (.int .u64 i8), (.int .i64 i9), (.int .i64 i10), (.sl l11)] = t45x1 i0 i1 i2 i3 i4 i5 i6 i7 i8 i9 i10 l11 := by kernel_rfl
theorem s45x0 (i0 : Int) (g : Int → Tree) (els : Tree) : outT o45x0 ((.ret ((.int .i64 i0), .no)), ⟨[], ([] : List Nat)⟩) g els = .need (([] : List Nat) = ([] : List Nat)) (g i0) := rfl
/-! auklet/ere.can -/
noncomputable def t46x0 (i0 : Int) (i1 : Int) (i2 : Int) (i3 : Int) (i4 : Int) (i5 : Int) (i6 : Int) (l7 : List AV) (i8 : Int) (i9 : Int) : Tree :=
  .nm (decide (i9 > (100 : Int))) fun (b10 : Bool) =>
  .ite b10 (.done ((.ret ((.bool Bool.false), .no)), ⟨[], ([] : List Nat)⟩))
    (.nm (i0 != (1 : Int)) fun (b11 : Bool) =>
    .ite b11 (.nm (Bool.not (Bool.and (i1 == (0 : Int)) (Bool.and (i2 == (0 : Int)) (Bool.and (i3 == (0 : Int)) (Bool.and (i4 == (0 : Int)) Bool.true))))) fun (b12 : Bool) =>
      .ite b12 (.done ((.ret ((.bool Bool.false), .no)), ⟨[], ([] : List Nat)⟩))
        (.nm (i0 != (6 : Int)) fun (b13 : Bool) =>
        .ite b13 (.nm (i5 != (0 : Int)) fun (b14 : Bool) =>
          .ite b14 (.done ((.ret ((.bool Bool.false), .no)), ⟨[], ([] : List Nat)⟩))
            (.nm (i6 != (0 : Int)) fun (b15 : Bool) =>
            .ite b15 (.done ((.ret ((.bool Bool.false), .no)), ⟨[], ([] : List Nat)⟩))
              (.nm (i0 == (0 : Int)) fun (b16 : Bool) =>
              .ite b16 (.nm (((List.length l7) : Nat) : Int) fun (r17 : Int) =>
                .nm (r17 == (0 : Int)) fun (b18 : Bool) =>
                .ite b18 (.nm (i8 != (4 : Int)) fun (b19 : Bool) =>
                  .done ((.ret ((.bool b19), .no)), ⟨[], ([] : List Nat)⟩))
                  (.done ((.ret ((.bool Bool.false), .no)), ⟨[], ([] : List Nat)⟩)))
                (.nm (i0 == (1 : Int)) fun (b20 : Bool) =>
                .ite b20 (.jump 1 [(.int .i64 i8), (.bool b15), (.int .i64 i0), (.bool b16), (.bool b20), (.int .i64 i0), (.int .u64 i1), (.int .u64 i2), (.int .u64 i3), (.int .u64 i4), (.int .i64 i5), (.int .i64 i6), (.sl l7), (.int .i64 i9)])
                  (.nm (i0 == (2 : Int)) fun (b21 : Bool) =>
                  .ite b21 (.jump 1 [(.int .i64 i8), (.bool b15), (.int .i64 i0), (.bool b16), (.bool b21), (.int .i64 i0), (.int .u64 i1), (.int .u64 i2), (.int .u64 i3), (.int .u64 i4), (.int .i64 i5), (.int .i64 i6), (.sl l7), (.int .i64 i9)])
                    (.nm (i0 == (3 : Int)) fun (b22 : Bool) =>
                    .jump 1 [(.int .i64 i8), (.bool b15), (.int .i64 i0), (.bool b16), (.bool b22), (.int .i64 i0), (.int .u64 i1), (.int .u64 i2), (.int .u64 i3), (.int .u64 i4), (.int .i64 i5), (.int .i64 i6), (.sl l7), (.int .i64 i9)]))))))
          (.nm (i0 == (0 : Int)) fun (b23 : Bool) =>
          .ite b23 (.nm (((List.length l7) : Nat) : Int) fun (r24 : Int) =>
            .nm (r24 == (0 : Int)) fun (b25 : Bool) =>
            .ite b25 (.nm (i8 != (4 : Int)) fun (b26 : Bool) =>
              .done ((.ret ((.bool b26), .no)), ⟨[], ([] : List Nat)⟩))
              (.done ((.ret ((.bool Bool.false), .no)), ⟨[], ([] : List Nat)⟩)))
            (.nm (i0 == (1 : Int)) fun (b27 : Bool) =>
            .ite b27 (.jump 1 [(.int .i64 i8), (.bool Bool.false), (.int .i64 i0), (.bool b23), (.bool b27), (.int .i64 i0), (.int .u64 i1), (.int .u64 i2), (.int .u64 i3), (.int .u64 i4), (.int .i64 i5), (.int .i64 i6), (.sl l7), (.int .i64 i9)])
              (.nm (i0 == (2 : Int)) fun (b28 : Bool) =>
              .ite b28 (.jump 1 [(.int .i64 i8), (.bool Bool.false), (.int .i64 i0), (.bool b23), (.bool b28), (.int .i64 i0), (.int .u64 i1), (.int .u64 i2), (.int .u64 i3), (.int .u64 i4), (.int .i64 i5), (.int .i64 i6), (.sl l7), (.int .i64 i9)])
                (.nm (i0 == (3 : Int)) fun (b29 : Bool) =>
                .jump 1 [(.int .i64 i8), (.bool Bool.false), (.int .i64 i0), (.bool b23), (.bool b29), (.int .i64 i0), (.int .u64 i1), (.int .u64 i2), (.int .u64 i3), (.int .u64 i4), (.int .i64 i5), (.int .i64 i6), (.sl l7), (.int .i64 i9)]))))))
      (.nm (i0 != (6 : Int)) fun (b30 : Bool) =>
      .ite b30 (.nm (i5 != (0 : Int)) fun (b31 : Bool) =>
        .ite b31 (.done ((.ret ((.bool Bool.false), .no)), ⟨[], ([] : List Nat)⟩))
          (.nm (i6 != (0 : Int)) fun (b32 : Bool) =>
          .ite b32 (.done ((.ret ((.bool Bool.false), .no)), ⟨[], ([] : List Nat)⟩))
            (.nm (i0 == (0 : Int)) fun (b33 : Bool) =>
            .ite b33 (.nm (((List.length l7) : Nat) : Int) fun (r34 : Int) =>
              .nm (r34 == (0 : Int)) fun (b35 : Bool) =>
              .ite b35 (.nm (i8 != (4 : Int)) fun (b36 : Bool) =>
                .done ((.ret ((.bool b36), .no)), ⟨[], ([] : List Nat)⟩))
                (.done ((.ret ((.bool Bool.false), .no)), ⟨[], ([] : List Nat)⟩)))
              (.nm (i0 == (1 : Int)) fun (b37 : Bool) =>
              .ite b37 (.jump 1 [(.int .i64 i8), (.bool b32), (.int .i64 i0), (.bool b33), (.bool b37), (.int .i64 i0), (.int .u64 i1), (.int .u64 i2), (.int .u64 i3), (.int .u64 i4), (.int .i64 i5), (.int .i64 i6), (.sl l7), (.int .i64 i9)])
                (.nm (i0 == (2 : Int)) fun (b38 : Bool) =>
                .ite b38 (.jump 1 [(.int .i64 i8), (.bool b32), (.int .i64 i0), (.bool b33), (.bool b38), (.int .i64 i0), (.int .u64 i1), (.int .u64 i2), (.int .u64 i3), (.int .u64 i4), (.int .i64 i5), (.int .i64 i6), (.sl l7), (.int .i64 i9)])
                  (.nm (i0 == (3 : Int)) fun (b39 : Bool) =>
                  .jump 1 [(.int .i64 i8), (.bool b32), (.int .i64 i0), (.bool b33), (.bool b39), (.int .i64 i0), (.int .u64 i1), (.int .u64 i2), (.int .u64 i3), (.int .u64 i4), (.int .i64 i5), (.int .i64 i6), (.sl l7), (.int .i64 i9)]))))))
        (.nm (i0 == (0 : Int)) fun (b40 : Bool) =>
        .ite b40 (.nm (((List.length l7) : Nat) : Int) fun (r41 : Int) =>
          .nm (r41 == (0 : Int)) fun (b42 : Bool) =>
          .ite b42 (.nm (i8 != (4 : Int)) fun (b43 : Bool) =>
            .done ((.ret ((.bool b43), .no)), ⟨[], ([] : List Nat)⟩))
            (.done ((.ret ((.bool Bool.false), .no)), ⟨[], ([] : List Nat)⟩)))
          (.nm (i0 == (1 : Int)) fun (b44 : Bool) =>
          .ite b44 (.jump 1 [(.int .i64 i8), (.bool Bool.false), (.int .i64 i0), (.bool b40), (.bool b44), (.int .i64 i0), (.int .u64 i1), (.int .u64 i2), (.int .u64 i3), (.int .u64 i4), (.int .i64 i5), (.int .i64 i6), (.sl l7), (.int .i64 i9)])
            (.nm (i0 == (2 : Int)) fun (b45 : Bool) =>
            .ite b45 (.jump 1 [(.int .i64 i8), (.bool Bool.false), (.int .i64 i0), (.bool b40), (.bool b45), (.int .i64 i0), (.int .u64 i1), (.int .u64 i2), (.int .u64 i3), (.int .u64 i4), (.int .i64 i5), (.int .i64 i6), (.sl l7), (.int .i64 i9)])
              (.nm (i0 == (3 : Int)) fun (b46 : Bool) =>
              .jump 1 [(.int .i64 i8), (.bool Bool.false), (.int .i64 i0), (.bool b40), (.bool b46), (.int .i64 i0), (.int .u64 i1), (.int .u64 i2), (.int .u64 i3), (.int .u64 i4), (.int .i64 i5), (.int .i64 i6), (.sl l7), (.int .i64 i9)]))))))
set_option maxRecDepth 20000 in
theorem e46x0 (call : CallFn) (i0 : Int) (i1 : Int) (i2 : Int) (i3 : Int) (i4 : Int) (i5 : Int) (i6 : Int) (l7 : List AV) (i8 : Int) (i9 : Int) : lay.tree call 46 d46 0 [(.int .i64 i0), (.int .u64 i1), (.int .u64 i2), (.int .u64 i3), (.int .u64 i4), (.int .i64 i5), (.int .i64 i6), (.sl l7), (.int .i64 i8), (.int .i64 i9)] = t46x0 i0 i1 i2 i3 i4 i5 i6 l7 i8 i9 := by kernel_rfl
noncomputable def t46x1 (i0 : Int) (b1 : Bool) (i2 : Int) (b3 : Bool) (b4 : Bool) (i5 : Int) (i6 : Int) (i7 : Int) (i8 : Int) (i9 : Int) (i10 : Int) (i11 : Int) (l12 : List AV) (i13 : Int) : Tree :=
  .ite b4 (.nm (((List.length l12) : Nat) : Int) fun (r14 : Int) =>
    .nm (r14 == (0 : Int)) fun (b15 : Bool) =>
    .done ((.ret ((.bool b15), .no)), ⟨[], ([] : List Nat)⟩))
    (.nm (i2 == (4 : Int)) fun (b16 : Bool) =>
    .ite b16 (.jump 2 [(.int .i64 i0), (.bool b1), (.int .i64 i2), (.bool b3), (.bool b4), (.bool b16), (.int .i64 i5), (.int .u64 i6), (.int .u64 i7), (.int .u64 i8), (.int .u64 i9), (.int .i64 i10), (.int .i64 i11), (.sl l12), (.int .i64 i13)])
      (.nm (i2 == (5 : Int)) fun (b17 : Bool) =>
      .jump 2 [(.int .i64 i0), (.bool b1), (.int .i64 i2), (.bool b3), (.bool b4), (.bool b17), (.int .i64 i5), (.int .u64 i6), (.int .u64 i7), (.int .u64 i8), (.int .u64 i9), (.int .i64 i10), (.int .i64 i11), (.sl l12), (.int .i64 i13)]))
set_option maxRecDepth 20000 in
theorem e46x1 (call : CallFn) (i0 : Int) (b1 : Bool) (i2 : Int) (b3 : Bool) (b4 : Bool) (i5 : Int) (i6 : Int) (i7 : Int) (i8 : Int) (i9 : Int) (i10 : Int) (i11 : Int) (l12 : List AV) (i13 : Int) : lay.tree call 46 d46 1 [(.int .i64 i0), (.bool b1), (.int .i64 i2), (.bool b3), (.bool b4), (.int .i64 i5), (.int .u64 i6), (.int .u64 i7), (.int .u64 i8), (.int .u64 i9), (.int .i64 i10), (.int .i64 i11), (.sl l12), (.int .i64 i13)] = t46x1 i0 b1 i2 b3 b4 i5 i6 i7 i8 i9 i10 i11 l12 i13 := by kernel_rfl
noncomputable def t46x2 (i0 : Int) (b1 : Bool) (i2 : Int) (b3 : Bool) (b4 : Bool) (b5 : Bool) (i6 : Int) (i7 : Int) (i8 : Int) (i9 : Int) (i10 : Int) (i11 : Int) (i12 : Int) (l13 : List AV) (i14 : Int) : Tree :=
  .ite b5 (.nm (i0 == i6) fun (b15 : Bool) =>
    .ite b15 (.done ((.ret ((.bool Bool.false), .no)), ⟨[], ([] : List Nat)⟩))
      (.nm (((List.length l13) : Nat) : Int) fun (r16 : Int) =>
      .nm (decide (r16 < (2 : Int))) fun (b17 : Bool) =>
      .ite b17 (.done ((.ret ((.bool Bool.false), .no)), ⟨[], ([] : List Nat)⟩))
        (.need ((AV.lows 0 l13) = Bool.true) <|
        .need ((AV.lows 0 l13) = Bool.true) <|
        .call 67 0 [(.sl l13), (.int .i64 i6), (.int .u64 i7), (.int .u64 i8), (.int .u64 i9), (.int .u64 i10), (.int .i64 i11), (.int .i64 i12), (.sl l13), (.int .i64 i14)] fun o =>
          outT o67x0 o (fun (b18 : Bool) (i19 : Int) (i20 : Int) (i21 : Int) (i22 : Int) (i23 : Int) (i24 : Int) (i25 : Int) (l26 : List AV) (i27 : Int) =>
          .need ((AV.lows 0 l26) = Bool.true) <|
          .nm (Bool.not b18) fun (b28 : Bool) =>
          .done ((.ret ((.bool b28), .no)), ⟨[], ([] : List Nat)⟩))
           (.fail))))
    (.nm (i2 == (6 : Int)) fun (b29 : Bool) =>
    .ite b29 (.nm (((List.length l13) : Nat) : Int) fun (r30 : Int) =>
      .nm (r30 != (1 : Int)) fun (b31 : Bool) =>
      .ite b31 (.done ((.ret ((.bool Bool.false), .no)), ⟨[], ([] : List Nat)⟩))
        (.nm (decide (i11 < (0 : Int))) fun (b32 : Bool) =>
        .ite b32 (.done ((.ret ((.bool Bool.false), .no)), ⟨[], ([] : List Nat)⟩))
          (.nm (decide (i11 > (50 : Int))) fun (b33 : Bool) =>
          .ite b33 (.done ((.ret ((.bool Bool.false), .no)), ⟨[], ([] : List Nat)⟩))
            (.nm (i12 != (-(1 : Int))) fun (b34 : Bool) =>
            .ite b34 (.nm (decide (i12 < i11)) fun (b35 : Bool) =>
              .ite b35 (.done ((.ret ((.bool Bool.false), .no)), ⟨[], ([] : List Nat)⟩))
                (.nm (decide (i12 > (50 : Int))) fun (b36 : Bool) =>
                .ite b36 (.done ((.ret ((.bool Bool.false), .no)), ⟨[], ([] : List Nat)⟩))
                  (.need ((AV.lows 0 l13) = Bool.true) <|
                  .need ((AV.lows 0 l13) = Bool.true) <|
                  .call 67 0 [(.sl l13), (.int .i64 i6), (.int .u64 i7), (.int .u64 i8), (.int .u64 i9), (.int .u64 i10), (.int .i64 i11), (.int .i64 i12), (.sl l13), (.int .i64 i14)] fun o =>
                    outT o67x0 o (fun (b37 : Bool) (i38 : Int) (i39 : Int) (i40 : Int) (i41 : Int) (i42 : Int) (i43 : Int) (i44 : Int) (l45 : List AV) (i46 : Int) =>
                    .need ((AV.lows 0 l45) = Bool.true) <|
                    .nm (Bool.not b37) fun (b47 : Bool) =>
                    .done ((.ret ((.bool b47), .no)), ⟨[], ([] : List Nat)⟩))
                     (.fail))))
              (.need ((AV.lows 0 l13) = Bool.true) <|
              .need ((AV.lows 0 l13) = Bool.true) <|
              .call 67 0 [(.sl l13), (.int .i64 i6), (.int .u64 i7), (.int .u64 i8), (.int .u64 i9), (.int .u64 i10), (.int .i64 i11), (.int .i64 i12), (.sl l13), (.int .i64 i14)] fun o =>
                outT o67x0 o (fun (b48 : Bool) (i49 : Int) (i50 : Int) (i51 : Int) (i52 : Int) (i53 : Int) (i54 : Int) (i55 : Int) (l56 : List AV) (i57 : Int) =>
                .need ((AV.lows 0 l56) = Bool.true) <|
                .nm (Bool.not b48) fun (b58 : Bool) =>
                .done ((.ret ((.bool b58), .no)), ⟨[], ([] : List Nat)⟩))
                 (.fail))))))
      (.done ((.ret ((.bool Bool.false), .no)), ⟨[], ([] : List Nat)⟩)))
set_option maxRecDepth 20000 in
theorem e46x2 (call : CallFn) (i0 : Int) (b1 : Bool) (i2 : Int) (b3 : Bool) (b4 : Bool) (b5 : Bool) (i6 : Int) (i7 : Int) (i8 : Int) (i9 : Int) (i10 : Int) (i11 : Int) (i12 : Int) (l13 : List AV) (i14 : Int) : lay.tree call 46 d46 2 [(.int .i64 i0), (.bool b1), (.int .i64 i2), (.bool b3), (.bool b4), (.bool b5), (.int .i64 i6), (.int .u64 i7), (.int .u64 i8), (.int .u64 i9), (.int .u64 i10), (.int .i64 i11), (.int .i64 i12), (.sl l13), (.int .i64 i14)] = t46x2 i0 b1 i2 b3 b4 b5 i6 i7 i8 i9 i10 i11 i12 l13 i14 := by kernel_rfl
theorem s46x0 (b0 : Bool) (g : Bool → Tree) (els : Tree) : outT o46x0 ((.ret ((.bool b0), .no)), ⟨[], ([] : List Nat)⟩) g els = .need (([] : List Nat) = ([] : List Nat)) (g b0) := rfl
/-! auklet/ere.show -/
noncomputable def t47x0 (i0 : Int) (i1 : Int) (i2 : Int) (i3 : Int) (i4 : Int) (i5 : Int) (i6 : Int) (l7 : List AV) : Tree :=
  .nm (i0 == (1 : Int)) fun (b8 : Bool) =>
  .ite b8 (.call 69 0 [(.int .u64 (0 : Int)), (.int .u64 (0 : Int)), (.int .u64 (0 : Int)), (.int .u64 (0 : Int))] fun o =>
      outT o69x0 o (fun (i9 : Int) (i10 : Int) (i11 : Int) (i12 : Int) =>
      .nm (Bool.and (i1 == i9) (Bool.and (i2 == i10) (Bool.and (i3 == i11) (Bool.and (i4 == i12) Bool.true)))) fun (b13 : Bool) =>
      .need (((collect [((.int .u64 i1), .no), ((.int .u64 i2), .no), ((.int .u64 i3), .no), ((.int .u64 i4), .no)]) : SV) = ((.agg [(.int .u64 i1), (.int .u64 i2), (.int .u64 i3), (.int .u64 i4)]), (.agg [.no, .no, .no, .no]))) <|
      .ite b13 (.done ((.ret ((.str ([46] : List UInt8)), .no)), ⟨[], ([] : List Nat)⟩))
        (.call 70 0 [(.int .u64 i1), (.int .u64 i2), (.int .u64 i3), (.int .u64 i4)] fun o =>
          outT o70x0 o (fun (s14 : List UInt8) =>
          .done ((.ret ((.str s14), .no)), ⟨[], ([] : List Nat)⟩))
           (.fail)))
       (.fail))
    (.nm (i0 == (2 : Int)) fun (b15 : Bool) =>
    .ite b15 (.done ((.ret ((.str ([94] : List UInt8)), .no)), ⟨[], ([] : List Nat)⟩))
      (.nm (i0 == (3 : Int)) fun (b16 : Bool) =>
      .ite b16 (.done ((.ret ((.str ([36] : List UInt8)), .no)), ⟨[], ([] : List Nat)⟩))
        (.nm (i0 == (6 : Int)) fun (b17 : Bool) =>
        .ite b17 (.opn [.int .i64, .int .u64, .int .u64, .int .u64, .int .u64, .int .i64, .int .i64, .sl] (elemAt l7 (0 : Int)) <| fun (i18 : Int) (i19 : Int) (i20 : Int) (i21 : Int) (i22 : Int) (i23 : Int) (i24 : Int) (l25 : List AV) =>
          .need ((AV.lows 0 l25) = Bool.true) <|
          .need ((AV.lows 0 [(.int .i64 (4 : Int)), (.int .i64 (5 : Int)), (.int .i64 (0 : Int))]) = Bool.true) <|
          .call 71 0 [(.int .i64 i18), (.int .u64 i19), (.int .u64 i20), (.int .u64 i21), (.int .u64 i22), (.int .i64 i23), (.int .i64 i24), (.sl l25), (.sl [(.int .i64 (4 : Int)), (.int .i64 (5 : Int)), (.int .i64 (0 : Int))])] fun o =>
            outT o71x0 o (fun (s26 : List UInt8) =>
            .call 72 0 [(.int .i64 i5), (.int .i64 i6)] fun o =>
              outT o72x0 o (fun (s27 : List UInt8) =>
              .need (((List.length s26) + (List.length s27)) ≤ maxStr) <|
              .nm (s26 ++ s27) fun (s28 : List UInt8) =>
              .need ((((.int .i64 i5), .no) : SV) = ((.int .i64 i5), .no)) <|
              .need ((((.int .i64 i6), .no) : SV) = ((.int .i64 i6), .no)) <|
              .done ((.ret ((.str s28), .no)), ⟨[], ([] : List Nat)⟩))
               (.fail))
             (.fail))
          (.nm (((List.length l7) : Nat) : Int) fun (r29 : Int) =>
          .need ([0] = [0]) <|
          .jump 1 [(.sl []), (.bool b8), (.bool b15), (.bool b16), (.bool b17), (.sl l7), (.int .i64 r29), (.int .i64 (0 : Int)), (.int .i64 i0), (.int .u64 i1), (.int .u64 i2), (.int .u64 i3), (.int .u64 i4), (.int .i64 i5), (.int .i64 i6), (.sl l7)]))))
set_option maxRecDepth 20000 in
theorem e47x0 (call : CallFn) (i0 : Int) (i1 : Int) (i2 : Int) (i3 : Int) (i4 : Int) (i5 : Int) (i6 : Int) (l7 : List AV) : lay.tree call 47 d47 0 [(.int .i64 i0), (.int .u64 i1), (.int .u64 i2), (.int .u64 i3), (.int .u64 i4), (.int .i64 i5), (.int .i64 i6), (.sl l7)] = t47x0 i0 i1 i2 i3 i4 i5 i6 l7 := by kernel_rfl
noncomputable def t47x1 (l0 : List AV) (b1 : Bool) (b2 : Bool) (b3 : Bool) (b4 : Bool) (l5 : List AV) (i6 : Int) (i7 : Int) (i8 : Int) (i9 : Int) (i10 : Int) (i11 : Int) (i12 : Int) (i13 : Int) (i14 : Int) (l15 : List AV) : Tree :=
  .nm (decide (i7 < i6)) fun (b16 : Bool) =>
  .ite b16 (.opn [.int .i64, .int .u64, .int .u64, .int .u64, .int .u64, .int .i64, .int .i64, .sl] (elemAt l5 i7) <| fun (i17 : Int) (i18 : Int) (i19 : Int) (i20 : Int) (i21 : Int) (i22 : Int) (i23 : Int) (l24 : List AV) =>
    .need ((AV.lows 0 l24) = Bool.true) <|
    .nm (i8 == (4 : Int)) fun (b25 : Bool) =>
    .ite b25 (.need ((AV.lows 0 l24) = Bool.true) <|
      .need ((AV.lows 0 [(.int .i64 (5 : Int))]) = Bool.true) <|
      .call 71 0 [(.int .i64 i17), (.int .u64 i18), (.int .u64 i19), (.int .u64 i20), (.int .u64 i21), (.int .i64 i22), (.int .i64 i23), (.sl l24), (.sl [(.int .i64 (5 : Int))])] fun o =>
        outT o71x0 o (fun (s26 : List UInt8) =>
        .need ((szOk l0 1) = Bool.true) <|
        .need ((szOk [(.str s26)] 1) = Bool.true) <|
        .need (((List.length l0) + 1) ≤ Ab.maxLen) <|
        .need ((Option.some (List.length l0)) = (Option.some (List.length l0))) <|
        .nm (Go.IntKind.wrap .i64 (i7 + (1 : Int))) fun (r27 : Int) =>
        .need ([(List.length (l0 ++ [(.str s26)]))] = [(List.length (l0 ++ [(.str s26)]))]) <|
        .need ((AV.lows 0 (l0 ++ [(.str s26)])) = Bool.true) <|
        .need ((AV.lows 0 l5) = Bool.true) <|
        .jump 1 [(.sl (l0 ++ [(.str s26)])), (.bool b1), (.bool b2), (.bool b3), (.bool b4), (.sl l5), (.int .i64 i6), (.int .i64 r27), (.int .i64 i8), (.int .u64 i9), (.int .u64 i10), (.int .u64 i11), (.int .u64 i12), (.int .i64 i13), (.int .i64 i14), (.sl l15)])
         (.fail))
      (.need ((AV.lows 0 l24) = Bool.true) <|
      .call 47 0 [(.int .i64 i17), (.int .u64 i18), (.int .u64 i19), (.int .u64 i20), (.int .u64 i21), (.int .i64 i22), (.int .i64 i23), (.sl l24)] fun o =>
        outT o47x0 o (fun (s28 : List UInt8) =>
        .need ((szOk l0 1) = Bool.true) <|
        .need ((szOk [(.str s28)] 1) = Bool.true) <|
        .need (((List.length l0) + 1) ≤ Ab.maxLen) <|
        .need ((Option.some (List.length l0)) = (Option.some (List.length l0))) <|
        .nm (Go.IntKind.wrap .i64 (i7 + (1 : Int))) fun (r29 : Int) =>
        .need ([(List.length (l0 ++ [(.str s28)]))] = [(List.length (l0 ++ [(.str s28)]))]) <|
        .need ((AV.lows 0 (l0 ++ [(.str s28)])) = Bool.true) <|
        .need ((AV.lows 0 l5) = Bool.true) <|
        .jump 1 [(.sl (l0 ++ [(.str s28)])), (.bool b1), (.bool b2), (.bool b3), (.bool b4), (.sl l5), (.int .i64 i6), (.int .i64 r29), (.int .i64 i8), (.int .u64 i9), (.int .u64 i10), (.int .u64 i11), (.int .u64 i12), (.int .i64 i13), (.int .i64 i14), (.sl l15)])
         (.fail)))
    (.nm (i8 == (5 : Int)) fun (b30 : Bool) =>
    .ite b30 (.need ((AV.lows 0 l0) = Bool.true) <|
      .need (((allStr l0) = Bool.true) ∧ (((List.length l0) ≤ 4294967296) ∧ ((List.length (Go.Lib.join (toStrs l0) ([124] : List UInt8))) ≤ 281474976710656))) <|
      .nm (Go.Lib.join (toStrs l0) ([124] : List UInt8)) fun (s31 : List UInt8) =>
      .done ((.ret ((.str s31), .no)), ⟨[], ([] : List Nat)⟩))
      (.need ((AV.lows 0 l0) = Bool.true) <|
      .need (((allStr l0) = Bool.true) ∧ (((List.length l0) ≤ 4294967296) ∧ ((List.length (Go.Lib.join (toStrs l0) ([] : List UInt8))) ≤ 281474976710656))) <|
      .nm (Go.Lib.join (toStrs l0) ([] : List UInt8)) fun (s32 : List UInt8) =>
      .done ((.ret ((.str s32), .no)), ⟨[], ([] : List Nat)⟩)))
set_option maxRecDepth 20000 in
theorem e47x1 (call : CallFn) (l0 : List AV) (b1 : Bool) (b2 : Bool) (b3 : Bool) (b4 : Bool) (l5 : List AV) (i6 : Int) (i7 : Int) (i8 : Int) (i9 : Int) (i10 : Int) (i11 : Int) (i12 : Int) (i13 : Int) (i14 : Int) (l15 : List AV) : lay.tree call 47 d47 1 [(.sl l0), (.bool b1), (.bool b2), (.bool b3), (.bool b4), (.sl l5), (.int .i64 i6), (.int .i64 i7), (.int .i64 i8), (.int .u64 i9), (.int .u64 i10), (.int .u64 i11), (.int .u64 i12), (.int .i64 i13), (.int .i64 i14), (.sl l15)] = t47x1 l0 b1 b2 b3 b4 l5 i6 i7 i8 i9 i10 i11 i12 i13 i14 l15 := by kernel_rfl
theorem s47x0 (s0 : List UInt8) (g : List UInt8 → Tree) (els : Tree) : outT o47x0 ((.ret ((.str s0), .no)), ⟨[], ([] : List Nat)⟩) g els = .need (([] : List Nat) = ([] : List Nat)) (g s0) := rfl
/-! auklet/ere.least -/
noncomputable def t48x0 (i0 : Int) (i1 : Int) (i2 : Int) (i3 : Int) (i4 : Int) (i5 : Int) (i6 : Int) (l7 : List AV) : Tree :=
  .nm (i0 == (1 : Int)) fun (b8 : Bool) =>
  .ite b8 (.done ((.ret ((.int .i64 (1 : Int)), .no)), ⟨[], ([] : List Nat)⟩))
    (.nm (i0 == (6 : Int)) fun (b9 : Bool) =>
    .ite b9 (.opn [.int .i64, .int .u64, .int .u64, .int .u64, .int .u64, .int .i64, .int .i64, .sl] (elemAt l7 (0 : Int)) <| fun (i10 : Int) (i11 : Int) (i12 : Int) (i13 : Int) (i14 : Int) (i15 : Int) (i16 : Int) (l17 : List AV) =>
      .need ((AV.lows 0 l17) = Bool.true) <|
      .call 48 0 [(.int .i64 i10), (.int .u64 i11), (.int .u64 i12), (.int .u64 i13), (.int .u64 i14), (.int .i64 i15), (.int .i64 i16), (.sl l17)] fun o =>
        outT o48x0 o (fun (i18 : Int) =>
        .nm (Go.IntKind.wrap .i64 (i5 * i18)) fun (r19 : Int) =>
        .need ((((.int .i64 i5), .no) : SV) = ((.int .i64 i5), .no)) <|
        .done ((.ret ((.int .i64 r19), .no)), ⟨[], ([] : List Nat)⟩))
         (.fail))
      (.nm (i0 == (4 : Int)) fun (b20 : Bool) =>
      .ite b20 (.nm (((List.length l7) : Nat) : Int) fun (r21 : Int) =>
        .jump 1 [(.int .i64 (0 : Int)), (.int .i64 i0), (.bool b8), (.bool b9), (.bool b20), (.sl l7), (.int .i64 r21), (.int .i64 (0 : Int)), (.int .i64 i0), (.int .u64 i1), (.int .u64 i2), (.int .u64 i3), (.int .u64 i4), (.int .i64 i5), (.int .i64 i6), (.sl l7)])
        (.nm (i0 == (5 : Int)) fun (b22 : Bool) =>
        .ite b22 (.opn [.int .i64, .int .u64, .int .u64, .int .u64, .int .u64, .int .i64, .int .i64, .sl] (elemAt l7 (0 : Int)) <| fun (i23 : Int) (i24 : Int) (i25 : Int) (i26 : Int) (i27 : Int) (i28 : Int) (i29 : Int) (l30 : List AV) =>
          .need ((AV.lows 0 l30) = Bool.true) <|
          .call 48 0 [(.int .i64 i23), (.int .u64 i24), (.int .u64 i25), (.int .u64 i26), (.int .u64 i27), (.int .i64 i28), (.int .i64 i29), (.sl l30)] fun o =>
            outT o48x0 o (fun (i31 : Int) =>
            .nm (((List.length l7) : Nat) : Int) fun (r32 : Int) =>
            .jump 2 [(.int .i64 i31), (.bool b8), (.bool b9), (.bool b20), (.bool b22), (.sl l7), (.int .i64 r32), (.int .i64 (0 : Int)), (.int .i64 i0), (.int .u64 i1), (.int .u64 i2), (.int .u64 i3), (.int .u64 i4), (.int .i64 i5), (.int .i64 i6), (.sl l7)])
             (.fail))
          (.done ((.ret ((.int .i64 (0 : Int)), .no)), ⟨[], ([] : List Nat)⟩)))))
set_option maxRecDepth 20000 in
theorem e48x0 (call : CallFn) (i0 : Int) (i1 : Int) (i2 : Int) (i3 : Int) (i4 : Int) (i5 : Int) (i6 : Int) (l7 : List AV) : lay.tree call 48 d48 0 [(.int .i64 i0), (.int .u64 i1), (.int .u64 i2), (.int .u64 i3), (.int .u64 i4), (.int .i64 i5), (.int .i64 i6), (.sl l7)] = t48x0 i0 i1 i2 i3 i4 i5 i6 l7 := by kernel_rfl
noncomputable def t48x1 (i0 : Int) (i1 : Int) (b2 : Bool) (b3 : Bool) (b4 : Bool) (l5 : List AV) (i6 : Int) (i7 : Int) (i8 : Int) (i9 : Int) (i10 : Int) (i11 : Int) (i12 : Int) (i13 : Int) (i14 : Int) (l15 : List AV) : Tree :=
  .nm (decide (i7 < i6)) fun (b16 : Bool) =>
  .ite b16 (.opn [.int .i64, .int .u64, .int .u64, .int .u64, .int .u64, .int .i64, .int .i64, .sl] (elemAt l5 i7) <| fun (i17 : Int) (i18 : Int) (i19 : Int) (i20 : Int) (i21 : Int) (i22 : Int) (i23 : Int) (l24 : List AV) =>
    .need ((AV.lows 0 l24) = Bool.true) <|
    .need ((AV.lows 0 l24) = Bool.true) <|
    .call 48 0 [(.int .i64 i17), (.int .u64 i18), (.int .u64 i19), (.int .u64 i20), (.int .u64 i21), (.int .i64 i22), (.int .i64 i23), (.sl l24)] fun o =>
      outT o48x0 o (fun (i25 : Int) =>
      .nm (Go.IntKind.wrap .i64 (i0 + i25)) fun (r26 : Int) =>
      .nm (Go.IntKind.wrap .i64 (i7 + (1 : Int))) fun (r27 : Int) =>
      .need ((AV.lows 0 l5) = Bool.true) <|
      .jump 1 [(.int .i64 r26), (.int .i64 i1), (.bool b2), (.bool b3), (.bool b4), (.sl l5), (.int .i64 i6), (.int .i64 r27), (.int .i64 i8), (.int .u64 i9), (.int .u64 i10), (.int .u64 i11), (.int .u64 i12), (.int .i64 i13), (.int .i64 i14), (.sl l15)])
       (.fail))
    (.done ((.ret ((.int .i64 i0), .no)), ⟨[], ([] : List Nat)⟩))
set_option maxRecDepth 20000 in
theorem e48x1 (call : CallFn) (i0 : Int) (i1 : Int) (b2 : Bool) (b3 : Bool) (b4 : Bool) (l5 : List AV) (i6 : Int) (i7 : Int) (i8 : Int) (i9 : Int) (i10 : Int) (i11 : Int) (i12 : Int) (i13 : Int) (i14 : Int) (l15 : List AV) : lay.tree call 48 d48 1 [(.int .i64 i0), (.int .i64 i1), (.bool b2), (.bool b3), (.bool b4), (.sl l5), (.int .i64 i6), (.int .i64 i7), (.int .i64 i8), (.int .u64 i9), (.int .u64 i10), (.int .u64 i11), (.int .u64 i12), (.int .i64 i13), (.int .i64 i14), (.sl l15)] = t48x1 i0 i1 b2 b3 b4 l5 i6 i7 i8 i9 i10 i11 i12 i13 i14 l15 := by kernel_rfl
noncomputable def t48x2 (i0 : Int) (b1 : Bool) (b2 : Bool) (b3 : Bool) (b4 : Bool) (l5 : List AV) (i6 : Int) (i7 : Int) (i8 : Int) (i9 : Int) (i10 : Int) (i11 : Int) (i12 : Int) (i13 : Int) (i14 : Int) (l15 : List AV) : Tree :=
  .nm (decide (i7 < i6)) fun (b16 : Bool) =>
  .ite b16 (.opn [.int .i64, .int .u64, .int .u64, .int .u64, .int .u64, .int .i64, .int .i64, .sl] (elemAt l5 i7) <| fun (i17 : Int) (i18 : Int) (i19 : Int) (i20 : Int) (i21 : Int) (i22 : Int) (i23 : Int) (l24 : List AV) =>
    .need ((AV.lows 0 l24) = Bool.true) <|
    .need ((AV.lows 0 l24) = Bool.true) <|
    .call 48 0 [(.int .i64 i17), (.int .u64 i18), (.int .u64 i19), (.int .u64 i20), (.int .u64 i21), (.int .i64 i22), (.int .i64 i23), (.sl l24)] fun o =>
      outT o48x0 o (fun (i25 : Int) =>
      .nm (if (i25 < i0) then i25 else i0) fun (r26 : Int) =>
      .nm (Go.IntKind.wrap .i64 (i7 + (1 : Int))) fun (r27 : Int) =>
      .need ((AV.lows 0 l5) = Bool.true) <|
      .jump 2 [(.int .i64 r26), (.bool b1), (.bool b2), (.bool b3), (.bool b4), (.sl l5), (.int .i64 i6), (.int .i64 r27), (.int .i64 i8), (.int .u64 i9), (.int .u64 i10), (.int .u64 i11), (.int .u64 i12), (.int .i64 i13), (.int .i64 i14), (.sl l15)])
       (.fail))
    (.done ((.ret ((.int .i64 i0), .no)), ⟨[], ([] : List Nat)⟩))
set_option maxRecDepth 20000 in
theorem e48x2 (call : CallFn) (i0 : Int) (b1 : Bool) (b2 : Bool) (b3 : Bool) (b4 : Bool) (l5 : List AV) (i6 : Int) (i7 : Int) (i8 : Int) (i9 : Int) (i10 : Int) (i11 : Int) (i12 : Int) (i13 : Int) (i14 : Int) (l15 : List AV) : lay.tree call 48 d48 2 [(.int .i64 i0), (.bool b1), (.bool b2), (.bool b3), (.bool b4), (.sl l5), (.int .i64 i6), (.int .i64 i7), (.int .i64 i8), (.int .u64 i9), (.int .u64 i10), (.int .u64 i11), (.int .u64 i12), (.int .i64 i13), (.int .i64 i14), (.sl l15)] = t48x2 i0 b1 b2 b3 b4 l5 i6 i7 i8 i9 i10 i11 i12 i13 i14 l15 := by kernel_rfl
theorem s48x0 (i0 : Int) (g : Int → Tree) (els : Tree) : outT o48x0 ((.ret ((.int .i64 i0), .no)), ⟨[], ([] : List Nat)⟩) g els = .need (([] : List Nat) = ([] : List Nat)) (g i0) := rfl
/-! (*auklet/ere.reader).pattern -/
noncomputable def t53x0 (i0 : Int) (s1 : List UInt8) (i2 : Int) : Tree :=
  .call 75 0 [(.int .i64 i0), (.str s1), (.int .i64 i2)] fun o =>
    outT o75x0 o (fun (i7 : Int) (i8 : Int) (i9 : Int) (i10 : Int) (i11 : Int) (i12 : Int) (i13 : Int) (l14 : List AV) (s15 : List UInt8) (i16 : Int) =>
    .need ((AV.lows 0 l14) = Bool.true) <|
    .need ([1] = [1]) <|
    .jump 1 [(.int .i64 i0), (.sl [(.agg [(.int .i64 i7), (.int .u64 i8), (.int .u64 i9), (.int .u64 i10), (.int .u64 i11), (.int .i64 i12), (.int .i64 i13), (.sl l14)])]), (.str s15), (.int .i64 i16), (.int .i64 (0 : Int)), (.int .u64 (0 : Int)), (.int .u64 (0 : Int)), (.int .u64 (0 : Int)), (.int .u64 (0 : Int)), (.int .i64 (0 : Int)), (.int .i64 (0 : Int)), (.sl [])])
     (outT o75x1 o (fun (i3 : Int) (i4 : Int) (s5 : List UInt8) (i6 : Int) =>
    .done ((.panic (.iface 71 (.agg [(.int .i64 i3), (.int .i64 i4)]))), ⟨[[((.str s5), .no), ((.int .i64 i6), .no)]], ([] : List Nat)⟩))
     (.fail))
set_option maxRecDepth 20000 in
theorem e53x0 (call : CallFn) (i0 : Int) (s1 : List UInt8) (i2 : Int) : lay.tree call 53 d53 0 [(.int .i64 i0), (.str s1), (.int .i64 i2)] = t53x0 i0 s1 i2 := by kernel_rfl
noncomputable def t53x1 (i0 : Int) (l1 : List AV) (s2 : List UInt8) (i3 : Int) (i4 : Int) (i5 : Int) (i6 : Int) (i7 : Int) (i8 : Int) (i9 : Int) (i10 : Int) (l11 : List AV) : Tree :=
  .call 76 0 [(.int .u8 (124 : Int)), (.str s2), (.int .i64 i3)] fun o =>
    outT o76x0 o (fun (b12 : Bool) (s13 : List UInt8) (i14 : Int) =>
    .ite b12 (.call 75 0 [(.int .i64 i0), (.str s13), (.int .i64 i14)] fun o =>
        outT o75x0 o (fun (i19 : Int) (i20 : Int) (i21 : Int) (i22 : Int) (i23 : Int) (i24 : Int) (i25 : Int) (l26 : List AV) (s27 : List UInt8) (i28 : Int) =>
        .need ((AV.lows 0 l26) = Bool.true) <|
        .need ((szOk l1 8) = Bool.true) <|
        .need ((szOk [(.agg [(.int .i64 i19), (.int .u64 i20), (.int .u64 i21), (.int .u64 i22), (.int .u64 i23), (.int .i64 i24), (.int .i64 i25), (.sl l26)])] 8) = Bool.true) <|
        .need (((List.length l1) + 1) ≤ Ab.maxLen) <|
        .need ((Option.some (List.length l1)) = (Option.some (List.length l1))) <|
        .need ([(List.length (l1 ++ [(.agg [(.int .i64 i19), (.int .u64 i20), (.int .u64 i21), (.int .u64 i22), (.int .u64 i23), (.int .i64 i24), (.int .i64 i25), (.sl l26)])]))] = [(List.length (l1 ++ [(.agg [(.int .i64 i19), (.int .u64 i20), (.int .u64 i21), (.int .u64 i22), (.int .u64 i23), (.int .i64 i24), (.int .i64 i25), (.sl l26)])]))]) <|
        .jump 1 [(.int .i64 i0), (.sl (l1 ++ [(.agg [(.int .i64 i19), (.int .u64 i20), (.int .u64 i21), (.int .u64 i22), (.int .u64 i23), (.int .i64 i24), (.int .i64 i25), (.sl l26)])])), (.str s27), (.int .i64 i28), (.int .i64 i4), (.int .u64 i5), (.int .u64 i6), (.int .u64 i7), (.int .u64 i8), (.int .i64 i9), (.int .i64 i10), (.sl l11)])
         (outT o75x1 o (fun (i15 : Int) (i16 : Int) (s17 : List UInt8) (i18 : Int) =>
        .done ((.panic (.iface 71 (.agg [(.int .i64 i15), (.int .i64 i16)]))), ⟨[[((.str s17), .no), ((.int .i64 i18), .no)]], ([] : List Nat)⟩))
         (.fail)))
      (.need ((AV.lows 0 l1) = Bool.true) <|
      .call 77 0 [(.int .i64 (5 : Int)), (.sl l1)] fun o =>
        outT o77x0 o (fun (i29 : Int) (i30 : Int) (i31 : Int) (i32 : Int) (i33 : Int) (i34 : Int) (i35 : Int) (l36 : List AV) =>
        .need ((AV.lows 0 l36) = Bool.true) <|
        .need ((AV.lows 0 l36) = Bool.true) <|
        .need ((AV.lows 0 l36) = Bool.true) <|
        .done ((.ret ((.agg [(.int .i64 i29), (.int .u64 i30), (.int .u64 i31), (.int .u64 i32), (.int .u64 i33), (.int .i64 i34), (.int .i64 i35), (.sl l36)]), .no)), ⟨[[((.str s13), .no), ((.int .i64 i14), .no)]], ([] : List Nat)⟩))
         (.fail)))
     (.fail)
set_option maxRecDepth 20000 in
theorem e53x1 (call : CallFn) (i0 : Int) (l1 : List AV) (s2 : List UInt8) (i3 : Int) (i4 : Int) (i5 : Int) (i6 : Int) (i7 : Int) (i8 : Int) (i9 : Int) (i10 : Int) (l11 : List AV) : lay.tree call 53 d53 1 [(.int .i64 i0), (.sl l1), (.str s2), (.int .i64 i3), (.int .i64 i4), (.int .u64 i5), (.int .u64 i6), (.int .u64 i7), (.int .u64 i8), (.int .i64 i9), (.int .i64 i10), (.sl l11)] = t53x1 i0 l1 s2 i3 i4 i5 i6 i7 i8 i9 i10 l11 := by kernel_rfl
theorem s53x0 (i0 : Int) (i1 : Int) (i2 : Int) (i3 : Int) (i4 : Int) (i5 : Int) (i6 : Int) (l7 : List AV) (s8 : List UInt8) (i9 : Int) (g : Int → Int → Int → Int → Int → Int → Int → List AV → List UInt8 → Int → Tree) (els : Tree) : outT o53x0 ((.ret ((.agg [(.int .i64 i0), (.int .u64 i1), (.int .u64 i2), (.int .u64 i3), (.int .u64 i4), (.int .i64 i5), (.int .i64 i6), (.sl l7)]), .no)), ⟨[[((.str s8), .no), ((.int .i64 i9), .no)]], ([] : List Nat)⟩) g els = .need (([] : List Nat) = ([] : List Nat)) (g i0 i1 i2 i3 i4 i5 i6 l7 s8 i9) := rfl
theorem s53x1 (i0 : Int) (i1 : Int) (s2 : List UInt8) (i3 : Int) (g : Int → Int → List UInt8 → Int → Tree) (els : Tree) : outT o53x1 ((.panic (.iface 71 (.agg [(.int .i64 i0), (.int .i64 i1)]))), ⟨[[((.str s2), .no), ((.int .i64 i3), .no)]], ([] : List Nat)⟩) g els = .need (([] : List Nat) = ([] : List Nat)) (g i0 i1 s2 i3) := rfl
theorem n53x0x1 (i0 : Int) (i1 : Int) (s2 : List UInt8) (i3 : Int) (g : Int → Int → Int → Int → Int → Int → Int → List AV → List UInt8 → Int → Tree) (els : Tree) : outT o53x0 ((.panic (.iface 71 (.agg [(.int .i64 i0), (.int .i64 i1)]))), ⟨[[((.str s2), .no), ((.int .i64 i3), .no)]], ([] : List Nat)⟩) g els = els := rfl
/-! strings.IndexByte -/
noncomputable def t54x0 (s0 : List UInt8) (i1 : Int) : Tree :=
  .call 78 0 [(.str s0), (.int .u8 i1)] fun o =>
    outT o78x0 o (fun (i2 : Int) =>
    .done ((.ret ((.int .i64 i2), .no)), ⟨[], ([] : List Nat)⟩))
     (.fail)
set_option maxRecDepth 20000 in
theorem e54x0 (call : CallFn) (s0 : List UInt8) (i1 : Int) : lay.tree call 54 d54 0 [(.str s0), (.int .u8 i1)] = t54x0 s0 i1 := by kernel_rfl
theorem s54x0 (i0 : Int) (g : Int → Tree) (els : Tree) : outT o54x0 ((.ret ((.int .i64 i0), .no)), ⟨[], ([] : List Nat)⟩) g els = .need (([] : List Nat) = ([] : List Nat)) (g i0) := rfl
/-! strings.HasPrefix -/
noncomputable def t55x0 (s0 : List UInt8) (s1 : List UInt8) : Tree :=
  .call 79 0 [(.str s0), (.str s1)] fun o =>
    outT o79x0 o (fun (b2 : Bool) =>
    .done ((.ret ((.bool b2), .no)), ⟨[], ([] : List Nat)⟩))
     (.fail)
set_option maxRecDepth 20000 in
theorem e55x0 (call : CallFn) (s0 : List UInt8) (s1 : List UInt8) : lay.tree call 55 d55 0 [(.str s0), (.str s1)] = t55x0 s0 s1 := by kernel_rfl
theorem s55x0 (b0 : Bool) (g : Bool → Tree) (els : Tree) : outT o55x0 ((.ret ((.bool b0), .no)), ⟨[], ([] : List Nat)⟩) g els = .need (([] : List Nat) = ([] : List Nat)) (g b0) := rfl
/-! slices.ContainsFunc[[]auklet/api.Re,auklet/api.Re] -/
noncomputable def t67x0 (l0 : List AV) (i1 : Int) (i2 : Int) (i3 : Int) (i4 : Int) (i5 : Int) (i6 : Int) (i7 : Int) (l8 : List AV) (i9 : Int) : Tree :=
  .need ((AV.lows 0 l0) = Bool.true) <|
  .need ((AV.lows 0 l8) = Bool.true) <|
  .call 85 0 [(.sl l0), (.int .i64 i1), (.int .u64 i2), (.int .u64 i3), (.int .u64 i4), (.int .u64 i5), (.int .i64 i6), (.int .i64 i7), (.sl l8), (.int .i64 i9)] fun o =>
    outT o85x0 o (fun (i10 : Int) (i11 : Int) (i12 : Int) (i13 : Int) (i14 : Int) (i15 : Int) (i16 : Int) (i17 : Int) (l18 : List AV) (i19 : Int) =>
    .need ((AV.lows 0 l18) = Bool.true) <|
    .nm (decide (i10 ≥ (0 : Int))) fun (b20 : Bool) =>
    .done ((.ret ((.bool b20), .no)), ⟨[[((.int .i64 i11), .no), ((.int .u64 i12), .no), ((.int .u64 i13), .no), ((.int .u64 i14), .no), ((.int .u64 i15), .no), ((.int .i64 i16), .no), ((.int .i64 i17), .no), ((.sl l18), .no)], [((.int .i64 i19), .no)]], ([] : List Nat)⟩))
     (.fail)
set_option maxRecDepth 20000 in
theorem e67x0 (call : CallFn) (l0 : List AV) (i1 : Int) (i2 : Int) (i3 : Int) (i4 : Int) (i5 : Int) (i6 : Int) (i7 : Int) (l8 : List AV) (i9 : Int) : lay.tree call 67 d67 0 [(.sl l0), (.int .i64 i1), (.int .u64 i2), (.int .u64 i3), (.int .u64 i4), (.int .u64 i5), (.int .i64 i6), (.int .i64 i7), (.sl l8), (.int .i64 i9)] = t67x0 l0 i1 i2 i3 i4 i5 i6 i7 l8 i9 := by kernel_rfl
theorem s67x0 (b0 : Bool) (i1 : Int) (i2 : Int) (i3 : Int) (i4 : Int) (i5 : Int) (i6 : Int) (i7 : Int) (l8 : List AV) (i9 : Int) (g : Bool → Int → Int → Int → Int → Int → Int → Int → List AV → Int → Tree) (els : Tree) : outT o67x0 ((.ret ((.bool b0), .no)), ⟨[[((.int .i64 i1), .no), ((.int .u64 i2), .no), ((.int .u64 i3), .no), ((.int .u64 i4), .no), ((.int .u64 i5), .no), ((.int .i64 i6), .no), ((.int .i64 i7), .no), ((.sl l8), .no)], [((.int .i64 i9), .no)]], ([] : List Nat)⟩) g els = .need (([] : List Nat) = ([] : List Nat)) (g b0 i1 i2 i3 i4 i5 i6 i7 l8 i9) := rfl
/-! auklet/ere.can$1 -/
noncomputable def t68x0 (i0 : Int) (i1 : Int) (i2 : Int) (i3 : Int) (i4 : Int) (i5 : Int) (i6 : Int) (l7 : List AV) (i8 : Int) (i9 : Int) (i10 : Int) (i11 : Int) (i12 : Int) (i13 : Int) (i14 : Int) (l15 : List AV) (i16 : Int) : Tree :=
  .nm (Go.IntKind.wrap .i64 (i16 + (1 : Int))) fun (r17 : Int) =>
  .need ((AV.lows 0 l7) = Bool.true) <|
  .call 46 0 [(.int .i64 i0), (.int .u64 i1), (.int .u64 i2), (.int .u64 i3), (.int .u64 i4), (.int .i64 i5), (.int .i64 i6), (.sl l7), (.int .i64 i8), (.int .i64 r17)] fun o =>
    outT o46x0 o (fun (b18 : Bool) =>
    .nm (Bool.not b18) fun (b19 : Bool) =>
    .done ((.ret ((.bool b19), .no)), ⟨[[((.int .i64 i8), .no), ((.int .u64 i9), .no), ((.int .u64 i10), .no), ((.int .u64 i11), .no), ((.int .u64 i12), .no), ((.int .i64 i13), .no), ((.int .i64 i14), .no), ((.sl l15), .no)], [((.int .i64 i16), .no)]], ([] : List Nat)⟩))
     (.fail)
set_option maxRecDepth 20000 in
theorem e68x0 (call : CallFn) (i0 : Int) (i1 : Int) (i2 : Int) (i3 : Int) (i4 : Int) (i5 : Int) (i6 : Int) (l7 : List AV) (i8 : Int) (i9 : Int) (i10 : Int) (i11 : Int) (i12 : Int) (i13 : Int) (i14 : Int) (l15 : List AV) (i16 : Int) : lay.tree call 68 d68 0 [(.int .i64 i0), (.int .u64 i1), (.int .u64 i2), (.int .u64 i3), (.int .u64 i4), (.int .i64 i5), (.int .i64 i6), (.sl l7), (.int .i64 i8), (.int .u64 i9), (.int .u64 i10), (.int .u64 i11), (.int .u64 i12), (.int .i64 i13), (.int .i64 i14), (.sl l15), (.int .i64 i16)] = t68x0 i0 i1 i2 i3 i4 i5 i6 l7 i8 i9 i10 i11 i12 i13 i14 l15 i16 := by kernel_rfl
theorem s68x0 (b0 : Bool) (i1 : Int) (i2 : Int) (i3 : Int) (i4 : Int) (i5 : Int) (i6 : Int) (i7 : Int) (l8 : List AV) (i9 : Int) (g : Bool → Int → Int → Int → Int → Int → Int → Int → List AV → Int → Tree) (els : Tree) : outT o68x0 ((.ret ((.bool b0), .no)), ⟨[[((.int .i64 i1), .no), ((.int .u64 i2), .no), ((.int .u64 i3), .no), ((.int .u64 i4), .no), ((.int .u64 i5), .no), ((.int .i64 i6), .no), ((.int .i64 i7), .no), ((.sl l8), .no)], [((.int .i64 i9), .no)]], ([] : List Nat)⟩) g els = .need (([] : List Nat) = ([] : List Nat)) (g b0 i1 i2 i3 i4 i5 i6 i7 l8 i9) := rfl
/-! auklet/class.Not -/
noncomputable def t69x0 (i0 : Int) (i1 : Int) (i2 : Int) (i3 : Int) : Tree :=
  .call 86 0 [(.int .u64 i0), (.int .u64 i1), (.int .u64 i2), (.int .u64 i3)] fun o =>
    outT o86x0 o (fun (i4 : Int) (i5 : Int) (i6 : Int) (i7 : Int) =>
    .done ((.ret ((.agg [(.int .u64 i4), (.int .u64 i5), (.int .u64 i6), (.int .u64 i7)]), .no)), ⟨[], ([] : List Nat)⟩))
     (.fail)
set_option maxRecDepth 20000 in
theorem e69x0 (call : CallFn) (i0 : Int) (i1 : Int) (i2 : Int) (i3 : Int) : lay.tree call 69 d69 0 [(.int .u64 i0), (.int .u64 i1), (.int .u64 i2), (.int .u64 i3)] = t69x0 i0 i1 i2 i3 := by kernel_rfl
theorem s69x0 (i0 : Int) (i1 : Int) (i2 : Int) (i3 : Int) (g : Int → Int → Int → Int → Tree) (els : Tree) : outT o69x0 ((.ret ((.agg [(.int .u64 i0), (.int .u64 i1), (.int .u64 i2), (.int .u64 i3)]), .no)), ⟨[], ([] : List Nat)⟩) g els = .need (([] : List Nat) = ([] : List Nat)) (g i0 i1 i2 i3) := rfl
/-! auklet/class.Show -/
noncomputable def t70x0 (i0 : Int) (i1 : Int) (i2 : Int) (i3 : Int) : Tree :=
  .need ([0] = [0]) <|
  .call 42 0 [(.int .u8 (91 : Int)), (.buf 5 ([] : List UInt8))] fun o =>
    outT o42x0 o (fun (s4 : List UInt8) =>
    .nm (Bool.and (i0 == (0 : Int)) (Bool.and (i1 == (0 : Int)) (Bool.and (i2 == (0 : Int)) (Bool.and (i3 == (0 : Int)) Bool.true)))) fun (b5 : Bool) =>
    .ite b5 (.need ([(List.length s4)] = [(List.length s4)]) <|
      .call 42 0 [(.int .u8 (94 : Int)), (.buf 5 s4)] fun o =>
        outT o42x0 o (fun (s6 : List UInt8) =>
        .call 86 0 [(.int .u64 i0), (.int .u64 i1), (.int .u64 i2), (.int .u64 i3)] fun o =>
          outT o86x0 o (fun (i7 : Int) (i8 : Int) (i9 : Int) (i10 : Int) =>
          .need ([(List.length s6)] = [(List.length s6)]) <|
          .jump 1 [(.bool b5), (.int .i64 (0 : Int)), (.int .u64 i7), (.int .u64 i8), (.int .u64 i9), (.int .u64 i10), (.buf 5 s6)])
           (.fail))
         (.fail))
      (.need ([(List.length s4)] = [(List.length s4)]) <|
      .jump 1 [(.bool b5), (.int .i64 (0 : Int)), (.int .u64 i0), (.int .u64 i1), (.int .u64 i2), (.int .u64 i3), (.buf 5 s4)]))
     (.fail)
set_option maxRecDepth 20000 in
theorem e70x0 (call : CallFn) (i0 : Int) (i1 : Int) (i2 : Int) (i3 : Int) : lay.tree call 70 d70 0 [(.int .u64 i0), (.int .u64 i1), (.int .u64 i2), (.int .u64 i3)] = t70x0 i0 i1 i2 i3 := by kernel_rfl
noncomputable def t70x1 (b0 : Bool) (i1 : Int) (i2 : Int) (i3 : Int) (i4 : Int) (i5 : Int) (s6 : List UInt8) : Tree :=
  .nm (decide (i1 < (256 : Int))) fun (b7 : Bool) =>
  .ite b7 (.nm (Go.IntKind.wrap .u8 i1) fun (r8 : Int) =>
    .call 87 0 [(.int .u64 i2), (.int .u64 i3), (.int .u64 i4), (.int .u64 i5), (.int .u8 r8)] fun o =>
      outT o87x0 o (fun (b9 : Bool) =>
      .nm (Bool.not b9) fun (b10 : Bool) =>
      .ite b10 (.nm (Go.IntKind.wrap .i64 (i1 + (1 : Int))) fun (r11 : Int) =>
        .need ([(List.length s6)] = [(List.length s6)]) <|
        .jump 1 [(.bool b0), (.int .i64 r11), (.int .u64 i2), (.int .u64 i3), (.int .u64 i4), (.int .u64 i5), (.buf 5 s6)])
        (.nm (Go.IntKind.wrap .u8 i1) fun (r12 : Int) =>
        .call 54 0 [(.str ([94, 45, 93, 91, 92] : List UInt8)), (.int .u8 r12)] fun o =>
          outT o54x0 o (fun (i13 : Int) =>
          .nm (decide (i13 ≥ (0 : Int))) fun (b14 : Bool) =>
          .ite b14 (.need ([(List.length s6)] = [(List.length s6)]) <|
            .call 42 0 [(.int .u8 (92 : Int)), (.buf 5 s6)] fun o =>
              outT o42x0 o (fun (s15 : List UInt8) =>
              .nm (Go.IntKind.wrap .u8 i1) fun (r16 : Int) =>
              .need ([(List.length s15)] = [(List.length s15)]) <|
              .call 42 0 [(.int .u8 r16), (.buf 5 s15)] fun o =>
                outT o42x0 o (fun (s17 : List UInt8) =>
                .nm (Go.IntKind.wrap .i64 (i1 + (1 : Int))) fun (r18 : Int) =>
                .need ([(List.length s17)] = [(List.length s17)]) <|
                .jump 1 [(.bool b0), (.int .i64 r18), (.int .u64 i2), (.int .u64 i3), (.int .u64 i4), (.int .u64 i5), (.buf 5 s17)])
                 (.fail))
               (.fail))
            (.nm (Go.IntKind.wrap .u8 i1) fun (r19 : Int) =>
            .need ([(List.length s6)] = [(List.length s6)]) <|
            .call 42 0 [(.int .u8 r19), (.buf 5 s6)] fun o =>
              outT o42x0 o (fun (s20 : List UInt8) =>
              .nm (Go.IntKind.wrap .i64 (i1 + (1 : Int))) fun (r21 : Int) =>
              .need ([(List.length s20)] = [(List.length s20)]) <|
              .jump 1 [(.bool b0), (.int .i64 r21), (.int .u64 i2), (.int .u64 i3), (.int .u64 i4), (.int .u64 i5), (.buf 5 s20)])
               (.fail)))
           (.fail)))
       (.fail))
    (.need ([(List.length s6)] = [(List.length s6)]) <|
    .call 42 0 [(.int .u8 (93 : Int)), (.buf 5 s6)] fun o =>
      outT o42x0 o (fun (s22 : List UInt8) =>
      .need ([(List.length s22)] = [(List.length s22)]) <|
      .call 44 0 [(.buf 5 s22)] fun o =>
        outT o44x0 o (fun (s23 : List UInt8) (s24 : List UInt8) =>
        .done ((.ret ((.str s23), .no)), ⟨[], ([] : List Nat)⟩))
         (.fail))
       (.fail))
set_option maxRecDepth 20000 in
theorem e70x1 (call : CallFn) (b0 : Bool) (i1 : Int) (i2 : Int) (i3 : Int) (i4 : Int) (i5 : Int) (s6 : List UInt8) : lay.tree call 70 d70 1 [(.bool b0), (.int .i64 i1), (.int .u64 i2), (.int .u64 i3), (.int .u64 i4), (.int .u64 i5), (.buf 5 s6)] = t70x1 b0 i1 i2 i3 i4 i5 s6 := by kernel_rfl
theorem s70x0 (s0 : List UInt8) (g : List UInt8 → Tree) (els : Tree) : outT o70x0 ((.ret ((.str s0), .no)), ⟨[], ([] : List Nat)⟩) g els = .need (([] : List Nat) = ([] : List Nat)) (g s0) := rfl
/-! auklet/ere.within -/
noncomputable def t71x0 (i0 : Int) (i1 : Int) (i2 : Int) (i3 : Int) (i4 : Int) (i5 : Int) (i6 : Int) (l7 : List AV) (l8 : List AV) : Tree :=
  .need ((AV.lows 0 l8) = Bool.true) <|
  .call 88 0 [(.sl l8), (.int .i64 i0)] fun o =>
    outT o88x0 o (fun (b9 : Bool) =>
    .ite b9 (.need ((AV.lows 0 l7) = Bool.true) <|
      .call 47 0 [(.int .i64 i0), (.int .u64 i1), (.int .u64 i2), (.int .u64 i3), (.int .u64 i4), (.int .i64 i5), (.int .i64 i6), (.sl l7)] fun o =>
        outT o47x0 o (fun (s10 : List UInt8) =>
        .need ((1 + (List.length s10)) ≤ maxStr) <|
        .nm (40 :: s10) fun (s11 : List UInt8) =>
        .need (((List.length s11) + 1) ≤ maxStr) <|
        .nm (s11 ++ ([41] : List UInt8)) fun (s12 : List UInt8) =>
        .done ((.ret ((.str s12), .no)), ⟨[], ([] : List Nat)⟩))
         (.fail))
      (.need ((AV.lows 0 l7) = Bool.true) <|
      .call 47 0 [(.int .i64 i0), (.int .u64 i1), (.int .u64 i2), (.int .u64 i3), (.int .u64 i4), (.int .i64 i5), (.int .i64 i6), (.sl l7)] fun o =>
        outT o47x0 o (fun (s13 : List UInt8) =>
        .done ((.ret ((.str s13), .no)), ⟨[], ([] : List Nat)⟩))
         (.fail)))
     (.fail)
set_option maxRecDepth 20000 in
theorem e71x0 (call : CallFn) (i0 : Int) (i1 : Int) (i2 : Int) (i3 : Int) (i4 : Int) (i5 : Int) (i6 : Int) (l7 : List AV) (l8 : List AV) : lay.tree call 71 d71 0 [(.int .i64 i0), (.int .u64 i1), (.int .u64 i2), (.int .u64 i3), (.int .u64 i4), (.int .i64 i5), (.int .i64 i6), (.sl l7), (.sl l8)] = t71x0 i0 i1 i2 i3 i4 i5 i6 l7 l8 := by kernel_rfl
theorem s71x0 (s0 : List UInt8) (g : List UInt8 → Tree) (els : Tree) : outT o71x0 ((.ret ((.str s0), .no)), ⟨[], ([] : List Nat)⟩) g els = .need (([] : List Nat) = ([] : List Nat)) (g s0) := rfl
/-! auklet/ere.often -/
noncomputable def t72x0 (i0 : Int) (i1 : Int) : Tree :=
  .nm (i0 == (0 : Int)) fun (b2 : Bool) =>
  .ite b2 (.nm (i1 == (-(1 : Int))) fun (b3 : Bool) =>
    .ite b3 (.done ((.ret ((.str ([42] : List UInt8)), .no)), ⟨[], ([] : List Nat)⟩))
      (.jump 1 [(.int .i64 i0), (.int .i64 i1), (.bool b3)]))
    (.jump 1 [(.int .i64 i0), (.int .i64 i1), (.bool Bool.false)])
set_option maxRecDepth 20000 in
theorem e72x0 (call : CallFn) (i0 : Int) (i1 : Int) : lay.tree call 72 d72 0 [(.int .i64 i0), (.int .i64 i1)] = t72x0 i0 i1 := by kernel_rfl
noncomputable def t72x1 (i0 : Int) (i1 : Int) (b2 : Bool) : Tree :=
  .nm (i0 == (1 : Int)) fun (b3 : Bool) =>
  .ite b3 (.nm (i1 == (-(1 : Int))) fun (b4 : Bool) =>
    .ite b4 (.done ((.ret ((.str ([43] : List UInt8)), .no)), ⟨[], ([] : List Nat)⟩))
      (.jump 2 [(.int .i64 i0), (.int .i64 i1), (.bool b2), (.bool b4)]))
    (.jump 2 [(.int .i64 i0), (.int .i64 i1), (.bool b2), (.bool Bool.false)])
set_option maxRecDepth 20000 in
theorem e72x1 (call : CallFn) (i0 : Int) (i1 : Int) (b2 : Bool) : lay.tree call 72 d72 1 [(.int .i64 i0), (.int .i64 i1), (.bool b2)] = t72x1 i0 i1 b2 := by kernel_rfl
noncomputable def t72x2 (i0 : Int) (i1 : Int) (b2 : Bool) (b3 : Bool) : Tree :=
  .nm (i0 == (0 : Int)) fun (b4 : Bool) =>
  .ite b4 (.nm (i1 == (1 : Int)) fun (b5 : Bool) =>
    .ite b5 (.done ((.ret ((.str ([63] : List UInt8)), .no)), ⟨[], ([] : List Nat)⟩))
      (.jump 3 [(.int .i64 i0), (.int .i64 i1), (.bool b2), (.bool b3), (.bool b5)]))
    (.jump 3 [(.int .i64 i0), (.int .i64 i1), (.bool b2), (.bool b3), (.bool Bool.false)])
set_option maxRecDepth 20000 in
theorem e72x2 (call : CallFn) (i0 : Int) (i1 : Int) (b2 : Bool) (b3 : Bool) : lay.tree call 72 d72 2 [(.int .i64 i0), (.int .i64 i1), (.bool b2), (.bool b3)] = t72x2 i0 i1 b2 b3 := by kernel_rfl
noncomputable def t72x3 (i0 : Int) (i1 : Int) (b2 : Bool) (b3 : Bool) (b4 : Bool) : Tree :=
  .nm (i1 == (-(1 : Int))) fun (b5 : Bool) =>
  .ite b5 (.call 89 0 [(.int .i64 i0)] fun o =>
      outT o89x0 o (fun (s6 : List UInt8) =>
      .need ((1 + (List.length s6)) ≤ maxStr) <|
      .nm (123 :: s6) fun (s7 : List UInt8) =>
      .need (((List.length s7) + 2) ≤ maxStr) <|
      .nm (s7 ++ ([44, 125] : List UInt8)) fun (s8 : List UInt8) =>
      .done ((.ret ((.str s8), .no)), ⟨[], ([] : List Nat)⟩))
       (.fail))
    (.nm (i0 == i1) fun (b9 : Bool) =>
    .ite b9 (.call 89 0 [(.int .i64 i0)] fun o =>
        outT o89x0 o (fun (s10 : List UInt8) =>
        .need ((1 + (List.length s10)) ≤ maxStr) <|
        .nm (123 :: s10) fun (s11 : List UInt8) =>
        .need (((List.length s11) + 1) ≤ maxStr) <|
        .nm (s11 ++ ([125] : List UInt8)) fun (s12 : List UInt8) =>
        .done ((.ret ((.str s12), .no)), ⟨[], ([] : List Nat)⟩))
         (.fail))
      (.call 89 0 [(.int .i64 i0)] fun o =>
        outT o89x0 o (fun (s13 : List UInt8) =>
        .need ((1 + (List.length s13)) ≤ maxStr) <|
        .nm (123 :: s13) fun (s14 : List UInt8) =>
        .need (((List.length s14) + 1) ≤ maxStr) <|
        .nm (s14 ++ ([44] : List UInt8)) fun (s15 : List UInt8) =>
        .call 89 0 [(.int .i64 i1)] fun o =>
          outT o89x0 o (fun (s16 : List UInt8) =>
          .need (((List.length s15) + (List.length s16)) ≤ maxStr) <|
          .nm (s15 ++ s16) fun (s17 : List UInt8) =>
          .need (((List.length s17) + 1) ≤ maxStr) <|
          .nm (s17 ++ ([125] : List UInt8)) fun (s18 : List UInt8) =>
          .done ((.ret ((.str s18), .no)), ⟨[], ([] : List Nat)⟩))
           (.fail))
         (.fail)))
set_option maxRecDepth 20000 in
theorem e72x3 (call : CallFn) (i0 : Int) (i1 : Int) (b2 : Bool) (b3 : Bool) (b4 : Bool) : lay.tree call 72 d72 3 [(.int .i64 i0), (.int .i64 i1), (.bool b2), (.bool b3), (.bool b4)] = t72x3 i0 i1 b2 b3 b4 := by kernel_rfl
theorem s72x0 (s0 : List UInt8) (g : List UInt8 → Tree) (els : Tree) : outT o72x0 ((.ret ((.str s0), .no)), ⟨[], ([] : List Nat)⟩) g els = .need (([] : List Nat) = ([] : List Nat)) (g s0) := rfl
/-! (*auklet/ere.reader).branch -/
noncomputable def t75x0 (i0 : Int) (s1 : List UInt8) (i2 : Int) : Tree :=
  .need ([0] = [0]) <|
  .jump 1 [(.int .i64 i0), (.sl []), (.str s1), (.int .i64 i2), (.int .i64 (0 : Int)), (.int .u64 (0 : Int)), (.int .u64 (0 : Int)), (.int .u64 (0 : Int)), (.int .u64 (0 : Int)), (.int .i64 (0 : Int)), (.int .i64 (0 : Int)), (.sl [])]
set_option maxRecDepth 20000 in
theorem e75x0 (call : CallFn) (i0 : Int) (s1 : List UInt8) (i2 : Int) : lay.tree call 75 d75 0 [(.int .i64 i0), (.str s1), (.int .i64 i2)] = t75x0 i0 s1 i2 := by kernel_rfl
noncomputable def t75x1 (i0 : Int) (l1 : List AV) (s2 : List UInt8) (i3 : Int) (i4 : Int) (i5 : Int) (i6 : Int) (i7 : Int) (i8 : Int) (i9 : Int) (i10 : Int) (l11 : List AV) : Tree :=
  .call 91 0 [(.str s2), (.int .i64 i3)] fun o =>
    outT o91x0 o (fun (i12 : Int) (b13 : Bool) (s14 : List UInt8) (i15 : Int) =>
    .nm i12 fun (r16 : Int) =>
    .nm b13 fun (b17 : Bool) =>
    .nm (Bool.not b17) fun (b18 : Bool) =>
    .ite b18 (.need ((AV.lows 0 l1) = Bool.true) <|
      .call 77 0 [(.int .i64 (4 : Int)), (.sl l1)] fun o =>
        outT o77x0 o (fun (i19 : Int) (i20 : Int) (i21 : Int) (i22 : Int) (i23 : Int) (i24 : Int) (i25 : Int) (l26 : List AV) =>
        .need ((AV.lows 0 l26) = Bool.true) <|
        .need ((AV.lows 0 l26) = Bool.true) <|
        .need ((AV.lows 0 l26) = Bool.true) <|
        .done ((.ret ((.agg [(.int .i64 i19), (.int .u64 i20), (.int .u64 i21), (.int .u64 i22), (.int .u64 i23), (.int .i64 i24), (.int .i64 i25), (.sl l26)]), .no)), ⟨[[((.str s14), .no), ((.int .i64 i15), .no)]], ([] : List Nat)⟩))
         (.fail))
      (.nm (r16 == (124 : Int)) fun (b27 : Bool) =>
      .ite b27 (.need ((AV.lows 0 l1) = Bool.true) <|
        .call 77 0 [(.int .i64 (4 : Int)), (.sl l1)] fun o =>
          outT o77x0 o (fun (i28 : Int) (i29 : Int) (i30 : Int) (i31 : Int) (i32 : Int) (i33 : Int) (i34 : Int) (l35 : List AV) =>
          .need ((AV.lows 0 l35) = Bool.true) <|
          .need ((AV.lows 0 l35) = Bool.true) <|
          .need ((AV.lows 0 l35) = Bool.true) <|
          .done ((.ret ((.agg [(.int .i64 i28), (.int .u64 i29), (.int .u64 i30), (.int .u64 i31), (.int .u64 i32), (.int .i64 i33), (.int .i64 i34), (.sl l35)]), .no)), ⟨[[((.str s14), .no), ((.int .i64 i15), .no)]], ([] : List Nat)⟩))
           (.fail))
        (.nm (r16 == (41 : Int)) fun (b36 : Bool) =>
        .ite b36 (.nm (decide (i0 > (0 : Int))) fun (b37 : Bool) =>
          .ite b37 (.need ((AV.lows 0 l1) = Bool.true) <|
            .call 77 0 [(.int .i64 (4 : Int)), (.sl l1)] fun o =>
              outT o77x0 o (fun (i38 : Int) (i39 : Int) (i40 : Int) (i41 : Int) (i42 : Int) (i43 : Int) (i44 : Int) (l45 : List AV) =>
              .need ((AV.lows 0 l45) = Bool.true) <|
              .need ((AV.lows 0 l45) = Bool.true) <|
              .need ((AV.lows 0 l45) = Bool.true) <|
              .done ((.ret ((.agg [(.int .i64 i38), (.int .u64 i39), (.int .u64 i40), (.int .u64 i41), (.int .u64 i42), (.int .i64 i43), (.int .i64 i44), (.sl l45)]), .no)), ⟨[[((.str s14), .no), ((.int .i64 i15), .no)]], ([] : List Nat)⟩))
               (.fail))
            (.call 92 0 [(.int .i64 i0), (.str s14), (.int .i64 i15)] fun o =>
              outT o92x0 o (fun (i50 : Int) (i51 : Int) (i52 : Int) (i53 : Int) (i54 : Int) (i55 : Int) (i56 : Int) (l57 : List AV) (s58 : List UInt8) (i59 : Int) =>
              .need ((AV.lows 0 l57) = Bool.true) <|
              .need ((szOk l1 8) = Bool.true) <|
              .need ((szOk [(.agg [(.int .i64 i50), (.int .u64 i51), (.int .u64 i52), (.int .u64 i53), (.int .u64 i54), (.int .i64 i55), (.int .i64 i56), (.sl l57)])] 8) = Bool.true) <|
              .need (((List.length l1) + 1) ≤ Ab.maxLen) <|
              .need ((Option.some (List.length l1)) = (Option.some (List.length l1))) <|
              .need ([(List.length (l1 ++ [(.agg [(.int .i64 i50), (.int .u64 i51), (.int .u64 i52), (.int .u64 i53), (.int .u64 i54), (.int .i64 i55), (.int .i64 i56), (.sl l57)])]))] = [(List.length (l1 ++ [(.agg [(.int .i64 i50), (.int .u64 i51), (.int .u64 i52), (.int .u64 i53), (.int .u64 i54), (.int .i64 i55), (.int .i64 i56), (.sl l57)])]))]) <|
              .jump 1 [(.int .i64 i0), (.sl (l1 ++ [(.agg [(.int .i64 i50), (.int .u64 i51), (.int .u64 i52), (.int .u64 i53), (.int .u64 i54), (.int .i64 i55), (.int .i64 i56), (.sl l57)])])), (.str s58), (.int .i64 i59), (.int .i64 i4), (.int .u64 i5), (.int .u64 i6), (.int .u64 i7), (.int .u64 i8), (.int .i64 i9), (.int .i64 i10), (.sl l11)])
               (outT o92x1 o (fun (i46 : Int) (i47 : Int) (s48 : List UInt8) (i49 : Int) =>
              .done ((.panic (.iface 71 (.agg [(.int .i64 i46), (.int .i64 i47)]))), ⟨[[((.str s48), .no), ((.int .i64 i49), .no)]], ([] : List Nat)⟩))
               (.fail))))
          (.call 92 0 [(.int .i64 i0), (.str s14), (.int .i64 i15)] fun o =>
            outT o92x0 o (fun (i64 : Int) (i65 : Int) (i66 : Int) (i67 : Int) (i68 : Int) (i69 : Int) (i70 : Int) (l71 : List AV) (s72 : List UInt8) (i73 : Int) =>
            .need ((AV.lows 0 l71) = Bool.true) <|
            .need ((szOk l1 8) = Bool.true) <|
            .need ((szOk [(.agg [(.int .i64 i64), (.int .u64 i65), (.int .u64 i66), (.int .u64 i67), (.int .u64 i68), (.int .i64 i69), (.int .i64 i70), (.sl l71)])] 8) = Bool.true) <|
            .need (((List.length l1) + 1) ≤ Ab.maxLen) <|
            .need ((Option.some (List.length l1)) = (Option.some (List.length l1))) <|
            .need ([(List.length (l1 ++ [(.agg [(.int .i64 i64), (.int .u64 i65), (.int .u64 i66), (.int .u64 i67), (.int .u64 i68), (.int .i64 i69), (.int .i64 i70), (.sl l71)])]))] = [(List.length (l1 ++ [(.agg [(.int .i64 i64), (.int .u64 i65), (.int .u64 i66), (.int .u64 i67), (.int .u64 i68), (.int .i64 i69), (.int .i64 i70), (.sl l71)])]))]) <|
            .jump 1 [(.int .i64 i0), (.sl (l1 ++ [(.agg [(.int .i64 i64), (.int .u64 i65), (.int .u64 i66), (.int .u64 i67), (.int .u64 i68), (.int .i64 i69), (.int .i64 i70), (.sl l71)])])), (.str s72), (.int .i64 i73), (.int .i64 i4), (.int .u64 i5), (.int .u64 i6), (.int .u64 i7), (.int .u64 i8), (.int .i64 i9), (.int .i64 i10), (.sl l11)])
             (outT o92x1 o (fun (i60 : Int) (i61 : Int) (s62 : List UInt8) (i63 : Int) =>
            .done ((.panic (.iface 71 (.agg [(.int .i64 i60), (.int .i64 i61)]))), ⟨[[((.str s62), .no), ((.int .i64 i63), .no)]], ([] : List Nat)⟩))
             (.fail))))))
     (.fail)
set_option maxRecDepth 20000 in
theorem e75x1 (call : CallFn) (i0 : Int) (l1 : List AV) (s2 : List UInt8) (i3 : Int) (i4 : Int) (i5 : Int) (i6 : Int) (i7 : Int) (i8 : Int) (i9 : Int) (i10 : Int) (l11 : List AV) : lay.tree call 75 d75 1 [(.int .i64 i0), (.sl l1), (.str s2), (.int .i64 i3), (.int .i64 i4), (.int .u64 i5), (.int .u64 i6), (.int .u64 i7), (.int .u64 i8), (.int .i64 i9), (.int .i64 i10), (.sl l11)] = t75x1 i0 l1 s2 i3 i4 i5 i6 i7 i8 i9 i10 l11 := by kernel_rfl
theorem s75x0 (i0 : Int) (i1 : Int) (i2 : Int) (i3 : Int) (i4 : Int) (i5 : Int) (i6 : Int) (l7 : List AV) (s8 : List UInt8) (i9 : Int) (g : Int → Int → Int → Int → Int → Int → Int → List AV → List UInt8 → Int → Tree) (els : Tree) : outT o75x0 ((.ret ((.agg [(.int .i64 i0), (.int .u64 i1), (.int .u64 i2), (.int .u64 i3), (.int .u64 i4), (.int .i64 i5), (.int .i64 i6), (.sl l7)]), .no)), ⟨[[((.str s8), .no), ((.int .i64 i9), .no)]], ([] : List Nat)⟩) g els = .need (([] : List Nat) = ([] : List Nat)) (g i0 i1 i2 i3 i4 i5 i6 l7 s8 i9) := rfl
theorem s75x1 (i0 : Int) (i1 : Int) (s2 : List UInt8) (i3 : Int) (g : Int → Int → List UInt8 → Int → Tree) (els : Tree) : outT o75x1 ((.panic (.iface 71 (.agg [(.int .i64 i0), (.int .i64 i1)]))), ⟨[[((.str s2), .no), ((.int .i64 i3), .no)]], ([] : List Nat)⟩) g els = .need (([] : List Nat) = ([] : List Nat)) (g i0 i1 s2 i3) := rfl
theorem n75x0x1 (i0 : Int) (i1 : Int) (s2 : List UInt8) (i3 : Int) (g : Int → Int → Int → Int → Int → Int → Int → List AV → List UInt8 → Int → Tree) (els : Tree) : outT o75x0 ((.panic (.iface 71 (.agg [(.int .i64 i0), (.int .i64 i1)]))), ⟨[[((.str s2), .no), ((.int .i64 i3), .no)]], ([] : List Nat)⟩) g els = els := rfl
/-! (*auklet/ere.reader).goes -/
noncomputable def t76x0 (i0 : Int) (s1 : List UInt8) (i2 : Int) : Tree :=
  .call 91 0 [(.str s1), (.int .i64 i2)] fun o =>
    outT o91x0 o (fun (i3 : Int) (b4 : Bool) (s5 : List UInt8) (i6 : Int) =>
    .nm i3 fun (r7 : Int) =>
    .nm b4 fun (b8 : Bool) =>
    .ite b8 (.nm (r7 == i0) fun (b9 : Bool) =>
      .ite b9 (.nm (Go.IntKind.wrap .i64 (i6 + (1 : Int))) fun (r10 : Int) =>
        .done ((.ret ((.bool b9), .no)), ⟨[[((.str s5), .no), ((.int .i64 r10), .no)]], ([] : List Nat)⟩))
        (.done ((.ret ((.bool b9), .no)), ⟨[[((.str s5), .no), ((.int .i64 i6), .no)]], ([] : List Nat)⟩)))
      (.done ((.ret ((.bool Bool.false), .no)), ⟨[[((.str s5), .no), ((.int .i64 i6), .no)]], ([] : List Nat)⟩)))
     (.fail)
set_option maxRecDepth 20000 in
theorem e76x0 (call : CallFn) (i0 : Int) (s1 : List UInt8) (i2 : Int) : lay.tree call 76 d76 0 [(.int .u8 i0), (.str s1), (.int .i64 i2)] = t76x0 i0 s1 i2 := by kernel_rfl
theorem s76x0 (b0 : Bool) (s1 : List UInt8) (i2 : Int) (g : Bool → List UInt8 → Int → Tree) (els : Tree) : outT o76x0 ((.ret ((.bool b0), .no)), ⟨[[((.str s1), .no), ((.int .i64 i2), .no)]], ([] : List Nat)⟩) g els = .need (([] : List Nat) = ([] : List Nat)) (g b0 s1 i2) := rfl
/-! auklet/ere.joined -/
noncomputable def t77x0 (i0 : Int) (l1 : List AV) : Tree :=
  .nm (((List.length l1) : Nat) : Int) fun (r2 : Int) =>
  .nm (r2 == (0 : Int)) fun (b3 : Bool) =>
  .ite b3 (.need ((AV.lows 0 []) = Bool.true) <|
    .need ((AV.lows 0 []) = Bool.true) <|
    .done ((.ret ((.agg [(.int .i64 (0 : Int)), (.int .u64 (0 : Int)), (.int .u64 (0 : Int)), (.int .u64 (0 : Int)), (.int .u64 (0 : Int)), (.int .i64 (0 : Int)), (.int .i64 (0 : Int)), (.sl [])]), .no)), ⟨[], ([] : List Nat)⟩))
    (.nm (r2 == (1 : Int)) fun (b4 : Bool) =>
    .ite b4 (.opn [.int .i64, .int .u64, .int .u64, .int .u64, .int .u64, .int .i64, .int .i64, .sl] (elemAt l1 (0 : Int)) <| fun (i5 : Int) (i6 : Int) (i7 : Int) (i8 : Int) (i9 : Int) (i10 : Int) (i11 : Int) (l12 : List AV) =>
      .need ((AV.lows 0 l12) = Bool.true) <|
      .need ((AV.lows 0 l12) = Bool.true) <|
      .done ((.ret ((.agg [(.int .i64 i5), (.int .u64 i6), (.int .u64 i7), (.int .u64 i8), (.int .u64 i9), (.int .i64 i10), (.int .i64 i11), (.sl l12)]), .no)), ⟨[], ([] : List Nat)⟩))
      (.nm (((List.length l1) : Nat) : Int) fun (r13 : Int) =>
      .need ([0] = [0]) <|
      .jump 1 [(.int .i64 i0), (.sl []), (.bool b3), (.bool b4), (.sl l1), (.int .i64 r13), (.int .i64 (0 : Int)), (.int .i64 (0 : Int)), (.int .u64 (0 : Int)), (.int .u64 (0 : Int)), (.int .u64 (0 : Int)), (.int .u64 (0 : Int)), (.int .i64 (0 : Int)), (.int .i64 (0 : Int)), (.sl [])]))
set_option maxRecDepth 20000 in
theorem e77x0 (call : CallFn) (i0 : Int) (l1 : List AV) : lay.tree call 77 d77 0 [(.int .i64 i0), (.sl l1)] = t77x0 i0 l1 := by kernel_rfl
noncomputable def t77x1 (i0 : Int) (l1 : List AV) (b2 : Bool) (b3 : Bool) (l4 : List AV) (i5 : Int) (i6 : Int) (i7 : Int) (i8 : Int) (i9 : Int) (i10 : Int) (i11 : Int) (i12 : Int) (i13 : Int) (l14 : List AV) : Tree :=
  .nm (decide (i6 < i5)) fun (b15 : Bool) =>
  .ite b15 (.opn [.int .i64, .int .u64, .int .u64, .int .u64, .int .u64, .int .i64, .int .i64, .sl] (elemAt l4 i6) <| fun (i16 : Int) (i17 : Int) (i18 : Int) (i19 : Int) (i20 : Int) (i21 : Int) (i22 : Int) (l23 : List AV) =>
    .need ((AV.lows 0 l23) = Bool.true) <|
    .nm (i16 == i0) fun (b24 : Bool) =>
    .ite b24 (.need ((szOk l1 8) = Bool.true) <|
      .need ((szOk l23 8) = Bool.true) <|
      .need (((List.length l1) + (List.length l23)) ≤ Ab.maxLen) <|
      .need ((Option.some (List.length l1)) = (Option.some (List.length l1))) <|
      .nm (Go.IntKind.wrap .i64 (i6 + (1 : Int))) fun (r25 : Int) =>
      .need ([(List.length (l1 ++ l23))] = [(List.length (l1 ++ l23))]) <|
      .need ((AV.lows 0 (l1 ++ l23)) = Bool.true) <|
      .need ((AV.lows 0 l4) = Bool.true) <|
      .jump 1 [(.int .i64 i0), (.sl (l1 ++ l23)), (.bool b2), (.bool b3), (.sl l4), (.int .i64 i5), (.int .i64 r25), (.int .i64 i7), (.int .u64 i8), (.int .u64 i9), (.int .u64 i10), (.int .u64 i11), (.int .i64 i12), (.int .i64 i13), (.sl l14)])
      (.nm (i16 != (0 : Int)) fun (b26 : Bool) =>
      .ite b26 (.need ((szOk l1 8) = Bool.true) <|
        .need ((szOk [(.agg [(.int .i64 i16), (.int .u64 i17), (.int .u64 i18), (.int .u64 i19), (.int .u64 i20), (.int .i64 i21), (.int .i64 i22), (.sl l23)])] 8) = Bool.true) <|
        .need (((List.length l1) + 1) ≤ Ab.maxLen) <|
        .need ((Option.some (List.length l1)) = (Option.some (List.length l1))) <|
        .nm (Go.IntKind.wrap .i64 (i6 + (1 : Int))) fun (r27 : Int) =>
        .need ([(List.length (l1 ++ [(.agg [(.int .i64 i16), (.int .u64 i17), (.int .u64 i18), (.int .u64 i19), (.int .u64 i20), (.int .i64 i21), (.int .i64 i22), (.sl l23)])]))] = [(List.length (l1 ++ [(.agg [(.int .i64 i16), (.int .u64 i17), (.int .u64 i18), (.int .u64 i19), (.int .u64 i20), (.int .i64 i21), (.int .i64 i22), (.sl l23)])]))]) <|
        .need ((AV.lows 0 (l1 ++ [(.agg [(.int .i64 i16), (.int .u64 i17), (.int .u64 i18), (.int .u64 i19), (.int .u64 i20), (.int .i64 i21), (.int .i64 i22), (.sl l23)])])) = Bool.true) <|
        .need ((AV.lows 0 l4) = Bool.true) <|
        .jump 1 [(.int .i64 i0), (.sl (l1 ++ [(.agg [(.int .i64 i16), (.int .u64 i17), (.int .u64 i18), (.int .u64 i19), (.int .u64 i20), (.int .i64 i21), (.int .i64 i22), (.sl l23)])])), (.bool b2), (.bool b3), (.sl l4), (.int .i64 i5), (.int .i64 r27), (.int .i64 i7), (.int .u64 i8), (.int .u64 i9), (.int .u64 i10), (.int .u64 i11), (.int .i64 i12), (.int .i64 i13), (.sl l14)])
        (.nm (i0 == (5 : Int)) fun (b28 : Bool) =>
        .ite b28 (.need ((szOk l1 8) = Bool.true) <|
          .need ((szOk [(.agg [(.int .i64 i16), (.int .u64 i17), (.int .u64 i18), (.int .u64 i19), (.int .u64 i20), (.int .i64 i21), (.int .i64 i22), (.sl l23)])] 8) = Bool.true) <|
          .need (((List.length l1) + 1) ≤ Ab.maxLen) <|
          .need ((Option.some (List.length l1)) = (Option.some (List.length l1))) <|
          .nm (Go.IntKind.wrap .i64 (i6 + (1 : Int))) fun (r29 : Int) =>
          .need ([(List.length (l1 ++ [(.agg [(.int .i64 i16), (.int .u64 i17), (.int .u64 i18), (.int .u64 i19), (.int .u64 i20), (.int .i64 i21), (.int .i64 i22), (.sl l23)])]))] = [(List.length (l1 ++ [(.agg [(.int .i64 i16), (.int .u64 i17), (.int .u64 i18), (.int .u64 i19), (.int .u64 i20), (.int .i64 i21), (.int .i64 i22), (.sl l23)])]))]) <|
          .need ((AV.lows 0 (l1 ++ [(.agg [(.int .i64 i16), (.int .u64 i17), (.int .u64 i18), (.int .u64 i19), (.int .u64 i20), (.int .i64 i21), (.int .i64 i22), (.sl l23)])])) = Bool.true) <|
          .need ((AV.lows 0 l4) = Bool.true) <|
          .jump 1 [(.int .i64 i0), (.sl (l1 ++ [(.agg [(.int .i64 i16), (.int .u64 i17), (.int .u64 i18), (.int .u64 i19), (.int .u64 i20), (.int .i64 i21), (.int .i64 i22), (.sl l23)])])), (.bool b2), (.bool b3), (.sl l4), (.int .i64 i5), (.int .i64 r29), (.int .i64 i7), (.int .u64 i8), (.int .u64 i9), (.int .u64 i10), (.int .u64 i11), (.int .i64 i12), (.int .i64 i13), (.sl l14)])
          (.nm (Go.IntKind.wrap .i64 (i6 + (1 : Int))) fun (r30 : Int) =>
          .need ([(List.length l1)] = [(List.length l1)]) <|
          .need ((AV.lows 0 l1) = Bool.true) <|
          .need ((AV.lows 0 l4) = Bool.true) <|
          .jump 1 [(.int .i64 i0), (.sl l1), (.bool b2), (.bool b3), (.sl l4), (.int .i64 i5), (.int .i64 r30), (.int .i64 i7), (.int .u64 i8), (.int .u64 i9), (.int .u64 i10), (.int .u64 i11), (.int .i64 i12), (.int .i64 i13), (.sl l14)]))))
    (.nm (((List.length l1) : Nat) : Int) fun (r31 : Int) =>
    .nm (decide (r31 < (2 : Int))) fun (b32 : Bool) =>
    .ite b32 (.need ((AV.lows 0 l1) = Bool.true) <|
      .call 77 0 [(.int .i64 i0), (.sl l1)] fun o =>
        outT o77x0 o (fun (i33 : Int) (i34 : Int) (i35 : Int) (i36 : Int) (i37 : Int) (i38 : Int) (i39 : Int) (l40 : List AV) =>
        .need ((AV.lows 0 l40) = Bool.true) <|
        .need ((AV.lows 0 l40) = Bool.true) <|
        .need ((AV.lows 0 l40) = Bool.true) <|
        .done ((.ret ((.agg [(.int .i64 i33), (.int .u64 i34), (.int .u64 i35), (.int .u64 i36), (.int .u64 i37), (.int .i64 i38), (.int .i64 i39), (.sl l40)]), .no)), ⟨[], ([] : List Nat)⟩))
         (.fail))
      (.need ((AV.lows 0 l1) = Bool.true) <|
      .need ((AV.lows 0 l1) = Bool.true) <|
      .done ((.ret ((.agg [(.int .i64 i0), (.int .u64 (0 : Int)), (.int .u64 (0 : Int)), (.int .u64 (0 : Int)), (.int .u64 (0 : Int)), (.int .i64 (0 : Int)), (.int .i64 (0 : Int)), (.sl l1)]), .no)), ⟨[], ([] : List Nat)⟩)))
set_option maxRecDepth 20000 in
theorem e77x1 (call : CallFn) (i0 : Int) (l1 : List AV) (b2 : Bool) (b3 : Bool) (l4 : List AV) (i5 : Int) (i6 : Int) (i7 : Int) (i8 : Int) (i9 : Int) (i10 : Int) (i11 : Int) (i12 : Int) (i13 : Int) (l14 : List AV) : lay.tree call 77 d77 1 [(.int .i64 i0), (.sl l1), (.bool b2), (.bool b3), (.sl l4), (.int .i64 i5), (.int .i64 i6), (.int .i64 i7), (.int .u64 i8), (.int .u64 i9), (.int .u64 i10), (.int .u64 i11), (.int .i64 i12), (.int .i64 i13), (.sl l14)] = t77x1 i0 l1 b2 b3 l4 i5 i6 i7 i8 i9 i10 i11 i12 i13 l14 := by kernel_rfl
theorem s77x0 (i0 : Int) (i1 : Int) (i2 : Int) (i3 : Int) (i4 : Int) (i5 : Int) (i6 : Int) (l7 : List AV) (g : Int → Int → Int → Int → Int → Int → Int → List AV → Tree) (els : Tree) : outT o77x0 ((.ret ((.agg [(.int .i64 i0), (.int .u64 i1), (.int .u64 i2), (.int .u64 i3), (.int .u64 i4), (.int .i64 i5), (.int .i64 i6), (.sl l7)]), .no)), ⟨[], ([] : List Nat)⟩) g els = .need (([] : List Nat) = ([] : List Nat)) (g i0 i1 i2 i3 i4 i5 i6 l7) := rfl
/-! internal/stringslite.IndexByte -/
noncomputable def t78x0 (s0 : List UInt8) (i1 : Int) : Tree :=
  .nm (Go.Lib.indexByte s0 (Nat.toUInt8 (Int.toNat i1))) fun (r2 : Int) =>
  .done ((.ret ((.int .i64 r2), .no)), ⟨[], ([] : List Nat)⟩)
set_option maxRecDepth 20000 in
theorem e78x0 (call : CallFn) (s0 : List UInt8) (i1 : Int) : lay.tree call 78 d78 0 [(.str s0), (.int .u8 i1)] = t78x0 s0 i1 := by kernel_rfl
theorem s78x0 (i0 : Int) (g : Int → Tree) (els : Tree) : outT o78x0 ((.ret ((.int .i64 i0), .no)), ⟨[], ([] : List Nat)⟩) g els = .need (([] : List Nat) = ([] : List Nat)) (g i0) := rfl
/-! internal/stringslite.HasPrefix -/
noncomputable def t79x0 (s0 : List UInt8) (s1 : List UInt8) : Tree :=
  .nm (((List.length s0) : Nat) : Int) fun (r2 : Int) =>
  .nm (((List.length s1) : Nat) : Int) fun (r3 : Int) =>
  .nm (decide (r2 ≥ r3)) fun (b4 : Bool) =>
  .ite b4 (.nm (((List.length s1) : Nat) : Int) fun (r5 : Int) =>
    .need (inLo r5 (List.length s0)) <|
    .nm ((List.drop 0 (List.take (Int.toNat r5) s0)) == s1) fun (b6 : Bool) =>
    .done ((.ret ((.bool b6), .no)), ⟨[], ([] : List Nat)⟩))
    (.done ((.ret ((.bool Bool.false), .no)), ⟨[], ([] : List Nat)⟩))
set_option maxRecDepth 20000 in
theorem e79x0 (call : CallFn) (s0 : List UInt8) (s1 : List UInt8) : lay.tree call 79 d79 0 [(.str s0), (.str s1)] = t79x0 s0 s1 := by kernel_rfl
theorem s79x0 (b0 : Bool) (g : Bool → Tree) (els : Tree) : outT o79x0 ((.ret ((.bool b0), .no)), ⟨[], ([] : List Nat)⟩) g els = .need (([] : List Nat) = ([] : List Nat)) (g b0) := rfl
/-! slices.IndexFunc[[]auklet/api.Re,auklet/api.Re] -/
noncomputable def t85x0 (l0 : List AV) (i1 : Int) (i2 : Int) (i3 : Int) (i4 : Int) (i5 : Int) (i6 : Int) (i7 : Int) (l8 : List AV) (i9 : Int) : Tree :=
  .nm (((List.length l0) : Nat) : Int) fun (r10 : Int) =>
  .jump 1 [(.sl l0), (.int .i64 r10), (.int .i64 (0 : Int)), (.int .i64 i1), (.int .u64 i2), (.int .u64 i3), (.int .u64 i4), (.int .u64 i5), (.int .i64 i6), (.int .i64 i7), (.sl l8), (.int .i64 i9)]
set_option maxRecDepth 20000 in
theorem e85x0 (call : CallFn) (l0 : List AV) (i1 : Int) (i2 : Int) (i3 : Int) (i4 : Int) (i5 : Int) (i6 : Int) (i7 : Int) (l8 : List AV) (i9 : Int) : lay.tree call 85 d85 0 [(.sl l0), (.int .i64 i1), (.int .u64 i2), (.int .u64 i3), (.int .u64 i4), (.int .u64 i5), (.int .i64 i6), (.int .i64 i7), (.sl l8), (.int .i64 i9)] = t85x0 l0 i1 i2 i3 i4 i5 i6 i7 l8 i9 := by kernel_rfl
noncomputable def t85x1 (l0 : List AV) (i1 : Int) (i2 : Int) (i3 : Int) (i4 : Int) (i5 : Int) (i6 : Int) (i7 : Int) (i8 : Int) (i9 : Int) (l10 : List AV) (i11 : Int) : Tree :=
  .nm (decide (i2 < i1)) fun (b12 : Bool) =>
  .ite b12 (.opn [.int .i64, .int .u64, .int .u64, .int .u64, .int .u64, .int .i64, .int .i64, .sl] (elemAt l0 i2) <| fun (i13 : Int) (i14 : Int) (i15 : Int) (i16 : Int) (i17 : Int) (i18 : Int) (i19 : Int) (l20 : List AV) =>
    .need ((AV.lows 0 l20) = Bool.true) <|
    .need ((AV.lows 0 l10) = Bool.true) <|
    .call 68 0 [(.int .i64 i13), (.int .u64 i14), (.int .u64 i15), (.int .u64 i16), (.int .u64 i17), (.int .i64 i18), (.int .i64 i19), (.sl l20), (.int .i64 i3), (.int .u64 i4), (.int .u64 i5), (.int .u64 i6), (.int .u64 i7), (.int .i64 i8), (.int .i64 i9), (.sl l10), (.int .i64 i11)] fun o =>
      outT o68x0 o (fun (b21 : Bool) (i22 : Int) (i23 : Int) (i24 : Int) (i25 : Int) (i26 : Int) (i27 : Int) (i28 : Int) (l29 : List AV) (i30 : Int) =>
      .need ((AV.lows 0 l29) = Bool.true) <|
      .ite b21 (.done ((.ret ((.int .i64 i2), .no)), ⟨[[((.int .i64 i22), .no), ((.int .u64 i23), .no), ((.int .u64 i24), .no), ((.int .u64 i25), .no), ((.int .u64 i26), .no), ((.int .i64 i27), .no), ((.int .i64 i28), .no), ((.sl l29), .no)], [((.int .i64 i30), .no)]], ([] : List Nat)⟩))
        (.nm (Go.IntKind.wrap .i64 (i2 + (1 : Int))) fun (r31 : Int) =>
        .jump 1 [(.sl l0), (.int .i64 i1), (.int .i64 r31), (.int .i64 i22), (.int .u64 i23), (.int .u64 i24), (.int .u64 i25), (.int .u64 i26), (.int .i64 i27), (.int .i64 i28), (.sl l29), (.int .i64 i30)]))
       (.fail))
    (.done ((.ret ((.int .i64 (-(1 : Int))), .no)), ⟨[[((.int .i64 i3), .no), ((.int .u64 i4), .no), ((.int .u64 i5), .no), ((.int .u64 i6), .no), ((.int .u64 i7), .no), ((.int .i64 i8), .no), ((.int .i64 i9), .no), ((.sl l10), .no)], [((.int .i64 i11), .no)]], ([] : List Nat)⟩))
set_option maxRecDepth 20000 in
theorem e85x1 (call : CallFn) (l0 : List AV) (i1 : Int) (i2 : Int) (i3 : Int) (i4 : Int) (i5 : Int) (i6 : Int) (i7 : Int) (i8 : Int) (i9 : Int) (l10 : List AV) (i11 : Int) : lay.tree call 85 d85 1 [(.sl l0), (.int .i64 i1), (.int .i64 i2), (.int .i64 i3), (.int .u64 i4), (.int .u64 i5), (.int .u64 i6), (.int .u64 i7), (.int .i64 i8), (.int .i64 i9), (.sl l10), (.int .i64 i11)] = t85x1 l0 i1 i2 i3 i4 i5 i6 i7 i8 i9 l10 i11 := by kernel_rfl
theorem s85x0 (i0 : Int) (i1 : Int) (i2 : Int) (i3 : Int) (i4 : Int) (i5 : Int) (i6 : Int) (i7 : Int) (l8 : List AV) (i9 : Int) (g : Int → Int → Int → Int → Int → Int → Int → Int → List AV → Int → Tree) (els : Tree) : outT o85x0 ((.ret ((.int .i64 i0), .no)), ⟨[[((.int .i64 i1), .no), ((.int .u64 i2), .no), ((.int .u64 i3), .no), ((.int .u64 i4), .no), ((.int .u64 i5), .no), ((.int .i64 i6), .no), ((.int .i64 i7), .no), ((.sl l8), .no)], [((.int .i64 i9), .no)]], ([] : List Nat)⟩) g els = .need (([] : List Nat) = ([] : List Nat)) (g i0 i1 i2 i3 i4 i5 i6 i7 l8 i9) := rfl
/-! auklet/class.not -/
noncomputable def t86x0 (i0 : Int) (i1 : Int) (i2 : Int) (i3 : Int) : Tree :=
  .jump 1 [(.int .i64 (0 : Int)), (.int .u64 i0), (.int .u64 i1), (.int .u64 i2), (.int .u64 i3), (.int .u64 (0 : Int)), (.int .u64 (0 : Int)), (.int .u64 (0 : Int)), (.int .u64 (0 : Int))]
set_option maxRecDepth 20000 in
theorem e86x0 (call : CallFn) (i0 : Int) (i1 : Int) (i2 : Int) (i3 : Int) : lay.tree call 86 d86 0 [(.int .u64 i0), (.int .u64 i1), (.int .u64 i2), (.int .u64 i3)] = t86x0 i0 i1 i2 i3 := by kernel_rfl
noncomputable def t86x1 (i0 : Int) (i1 : Int) (i2 : Int) (i3 : Int) (i4 : Int) (i5 : Int) (i6 : Int) (i7 : Int) (i8 : Int) : Tree :=
  .nm (decide (i0 < (4 : Int))) fun (b9 : Bool) =>
  .ite b9 (.need (inR i0 4) <|
    .opn [.int .u64] (Option.bind ([((.int .u64 i1), .no), ((.int .u64 i2), .no), ((.int .u64 i3), .no), ((.int .u64 i4), .no)][(0 + ((Int.toNat i0) * 1))]?) plain1) <| fun (i10 : Int) =>
    .nm (xorI .u64 ((((2 ^ 64) - 1) : Nat) : Int) i10) fun (r11 : Int) =>
    .need (inR i0 4) <|
    .need (((0 + ((Int.toNat i0) * 1)) + 1) ≤ 4) <|
    .opn [.int .u64, .int .u64, .int .u64, .int .u64] (plainL (replaceAt [((.int .u64 i1), .no), ((.int .u64 i2), .no), ((.int .u64 i3), .no), ((.int .u64 i4), .no)] (0 + ((Int.toNat i0) * 1)) (keptCells (decide (0 < 0)) (0 + ((Int.toNat i0) * 1)) [((.int .u64 i1), .no), ((.int .u64 i2), .no), ((.int .u64 i3), .no), ((.int .u64 i4), .no)] (expand ((.int .u64 r11), .no))))) <| fun (i12 : Int) (i13 : Int) (i14 : Int) (i15 : Int) =>
    .nm (Go.IntKind.wrap .i64 (i0 + (1 : Int))) fun (r16 : Int) =>
    .jump 1 [(.int .i64 r16), (.int .u64 i12), (.int .u64 i13), (.int .u64 i14), (.int .u64 i15), (.int .u64 i5), (.int .u64 i6), (.int .u64 i7), (.int .u64 i8)])
    (.done ((.ret ((.agg [(.int .u64 i1), (.int .u64 i2), (.int .u64 i3), (.int .u64 i4)]), .no)), ⟨[], ([] : List Nat)⟩))
set_option maxRecDepth 20000 in
theorem e86x1 (call : CallFn) (i0 : Int) (i1 : Int) (i2 : Int) (i3 : Int) (i4 : Int) (i5 : Int) (i6 : Int) (i7 : Int) (i8 : Int) : lay.tree call 86 d86 1 [(.int .i64 i0), (.int .u64 i1), (.int .u64 i2), (.int .u64 i3), (.int .u64 i4), (.int .u64 i5), (.int .u64 i6), (.int .u64 i7), (.int .u64 i8)] = t86x1 i0 i1 i2 i3 i4 i5 i6 i7 i8 := by kernel_rfl
theorem s86x0 (i0 : Int) (i1 : Int) (i2 : Int) (i3 : Int) (g : Int → Int → Int → Int → Tree) (els : Tree) : outT o86x0 ((.ret ((.agg [(.int .u64 i0), (.int .u64 i1), (.int .u64 i2), (.int .u64 i3)]), .no)), ⟨[], ([] : List Nat)⟩) g els = .need (([] : List Nat) = ([] : List Nat)) (g i0 i1 i2 i3) := rfl
/-! auklet/class.has -/
noncomputable def t87x0 (i0 : Int) (i1 : Int) (i2 : Int) (i3 : Int) (i4 : Int) : Tree :=
  .need (nonzero (64 : Int)) <|
  .nm (Go.IntKind.wrap .u8 (Int.tdiv i4 (64 : Int))) fun (r5 : Int) =>
  .need (inR r5 4) <|
  .opn [.int .u64] (Option.bind ([((.int .u64 i0), .no), ((.int .u64 i1), .no), ((.int .u64 i2), .no), ((.int .u64 i3), .no)][(0 + ((Int.toNat r5) * 1))]?) plain1) <| fun (i6 : Int) =>
  .need (nonzero (64 : Int)) <|
  .nm (Int.tmod i4 (64 : Int)) fun (r7 : Int) =>
  .need (nonneg r7) <|
  .nm (Int.fdiv i6 ((2 : Int) ^ (Min.min (Int.toNat r7) 64))) fun (r8 : Int) =>
  .nm (andI .u64 r8 (1 : Int)) fun (r9 : Int) =>
  .nm (r9 == (1 : Int)) fun (b10 : Bool) =>
  .done ((.ret ((.bool b10), .no)), ⟨[], ([] : List Nat)⟩)
set_option maxRecDepth 20000 in
theorem e87x0 (call : CallFn) (i0 : Int) (i1 : Int) (i2 : Int) (i3 : Int) (i4 : Int) : lay.tree call 87 d87 0 [(.int .u64 i0), (.int .u64 i1), (.int .u64 i2), (.int .u64 i3), (.int .u8 i4)] = t87x0 i0 i1 i2 i3 i4 := by kernel_rfl
theorem s87x0 (b0 : Bool) (g : Bool → Tree) (els : Tree) : outT o87x0 ((.ret ((.bool b0), .no)), ⟨[], ([] : List Nat)⟩) g els = .need (([] : List Nat) = ([] : List Nat)) (g b0) := rfl
/-! slices.Contains[[]int,int] -/
noncomputable def t88x0 (l0 : List AV) (i1 : Int) : Tree :=
  .need ((AV.lows 0 l0) = Bool.true) <|
  .call 98 0 [(.sl l0), (.int .i64 i1)] fun o =>
    outT o98x0 o (fun (i2 : Int) =>
    .nm (decide (i2 ≥ (0 : Int))) fun (b3 : Bool) =>
    .done ((.ret ((.bool b3), .no)), ⟨[], ([] : List Nat)⟩))
     (.fail)
set_option maxRecDepth 20000 in
theorem e88x0 (call : CallFn) (l0 : List AV) (i1 : Int) : lay.tree call 88 d88 0 [(.sl l0), (.int .i64 i1)] = t88x0 l0 i1 := by kernel_rfl
theorem s88x0 (b0 : Bool) (g : Bool → Tree) (els : Tree) : outT o88x0 ((.ret ((.bool b0), .no)), ⟨[], ([] : List Nat)⟩) g els = .need (([] : List Nat) = ([] : List Nat)) (g b0) := rfl
/-! strconv.Itoa -/
noncomputable def t89x0 (i0 : Int) : Tree :=
  .call 99 0 [(.int .i64 i0)] fun o =>
    outT o99x0 o (fun (s1 : List UInt8) =>
    .done ((.ret ((.str s1), .no)), ⟨[], ([] : List Nat)⟩))
     (.fail)
set_option maxRecDepth 20000 in
theorem e89x0 (call : CallFn) (i0 : Int) : lay.tree call 89 d89 0 [(.int .i64 i0)] = t89x0 i0 := by kernel_rfl
theorem s89x0 (s0 : List UInt8) (g : List UInt8 → Tree) (els : Tree) : outT o89x0 ((.ret ((.str s0), .no)), ⟨[], ([] : List Nat)⟩) g els = .need (([] : List Nat) = ([] : List Nat)) (g s0) := rfl
/-! (*auklet/ere.reader).peek -/
noncomputable def t91x0 (s0 : List UInt8) (i1 : Int) : Tree :=
  .nm (((List.length s0) : Nat) : Int) fun (r2 : Int) =>
  .nm (i1 == r2) fun (b3 : Bool) =>
  .ite b3 (.done ((.ret ((.tup [(.int .u8 (0 : Int)), (.bool Bool.false)]), (.agg [.no, .no]))), ⟨[[((.str s0), .no), ((.int .i64 i1), .no)]], ([] : List Nat)⟩))
    (.bind (byteAt s0 i1) fun (r4 : Int) =>
    .done ((.ret ((.tup [(.int .u8 r4), (.bool Bool.true)]), (.agg [.no, .no]))), ⟨[[((.str s0), .no), ((.int .i64 i1), .no)]], ([] : List Nat)⟩))
set_option maxRecDepth 20000 in
theorem e91x0 (call : CallFn) (s0 : List UInt8) (i1 : Int) : lay.tree call 91 d91 0 [(.str s0), (.int .i64 i1)] = t91x0 s0 i1 := by kernel_rfl
theorem s91x0 (i0 : Int) (b1 : Bool) (s2 : List UInt8) (i3 : Int) (g : Int → Bool → List UInt8 → Int → Tree) (els : Tree) : outT o91x0 ((.ret ((.tup [(.int .u8 i0), (.bool b1)]), (.agg [.no, .no]))), ⟨[[((.str s2), .no), ((.int .i64 i3), .no)]], ([] : List Nat)⟩) g els = .need (([] : List Nat) = ([] : List Nat)) (g i0 b1 s2 i3) := rfl
/-! (*auklet/ere.reader).piece -/
noncomputable def t92x0 (i0 : Int) (s1 : List UInt8) (i2 : Int) : Tree :=
  .call 101 0 [(.int .i64 i0), (.str s1), (.int .i64 i2)] fun o =>
    outT o101x0 o (fun (i7 : Int) (i8 : Int) (i9 : Int) (i10 : Int) (i11 : Int) (i12 : Int) (i13 : Int) (l14 : List AV) (s15 : List UInt8) (i16 : Int) =>
    .need ((AV.lows 0 l14) = Bool.true) <|
    .need ((AV.lows 0 l14) = Bool.true) <|
    .jump 1 [(.str s15), (.int .i64 i16), (.int .i64 (0 : Int)), (.int .u64 (0 : Int)), (.int .u64 (0 : Int)), (.int .u64 (0 : Int)), (.int .u64 (0 : Int)), (.int .i64 (0 : Int)), (.int .i64 (0 : Int)), (.sl []), (.int .i64 i7), (.int .u64 i8), (.int .u64 i9), (.int .u64 i10), (.int .u64 i11), (.int .i64 i12), (.int .i64 i13), (.sl l14)])
     (outT o101x1 o (fun (i3 : Int) (i4 : Int) (s5 : List UInt8) (i6 : Int) =>
    .done ((.panic (.iface 71 (.agg [(.int .i64 i3), (.int .i64 i4)]))), ⟨[[((.str s5), .no), ((.int .i64 i6), .no)]], ([] : List Nat)⟩))
     (.fail))
set_option maxRecDepth 20000 in
theorem e92x0 (call : CallFn) (i0 : Int) (s1 : List UInt8) (i2 : Int) : lay.tree call 92 d92 0 [(.int .i64 i0), (.str s1), (.int .i64 i2)] = t92x0 i0 s1 i2 := by kernel_rfl
noncomputable def t92x1 (s0 : List UInt8) (i1 : Int) (i2 : Int) (i3 : Int) (i4 : Int) (i5 : Int) (i6 : Int) (i7 : Int) (i8 : Int) (l9 : List AV) (i10 : Int) (i11 : Int) (i12 : Int) (i13 : Int) (i14 : Int) (i15 : Int) (i16 : Int) (l17 : List AV) : Tree :=
  .call 76 0 [(.int .u8 (42 : Int)), (.str s0), (.int .i64 i1)] fun o =>
    outT o76x0 o (fun (b18 : Bool) (s19 : List UInt8) (i20 : Int) =>
    .ite b18 (.need ((AV.lows 0 [(.agg [(.int .i64 i10), (.int .u64 i11), (.int .u64 i12), (.int .u64 i13), (.int .u64 i14), (.int .i64 i15), (.int .i64 i16), (.sl l17)])]) = Bool.true) <|
      .jump 1 [(.str s19), (.int .i64 i20), (.int .i64 i2), (.int .u64 i3), (.int .u64 i4), (.int .u64 i5), (.int .u64 i6), (.int .i64 i7), (.int .i64 i8), (.sl l9), (.int .i64 (6 : Int)), (.int .u64 (0 : Int)), (.int .u64 (0 : Int)), (.int .u64 (0 : Int)), (.int .u64 (0 : Int)), (.int .i64 (0 : Int)), (.int .i64 (-(1 : Int))), (.sl [(.agg [(.int .i64 i10), (.int .u64 i11), (.int .u64 i12), (.int .u64 i13), (.int .u64 i14), (.int .i64 i15), (.int .i64 i16), (.sl l17)])])])
      (.call 76 0 [(.int .u8 (43 : Int)), (.str s19), (.int .i64 i20)] fun o =>
        outT o76x0 o (fun (b21 : Bool) (s22 : List UInt8) (i23 : Int) =>
        .ite b21 (.need ((AV.lows 0 [(.agg [(.int .i64 i10), (.int .u64 i11), (.int .u64 i12), (.int .u64 i13), (.int .u64 i14), (.int .i64 i15), (.int .i64 i16), (.sl l17)])]) = Bool.true) <|
          .jump 1 [(.str s22), (.int .i64 i23), (.int .i64 i2), (.int .u64 i3), (.int .u64 i4), (.int .u64 i5), (.int .u64 i6), (.int .i64 i7), (.int .i64 i8), (.sl l9), (.int .i64 (6 : Int)), (.int .u64 (0 : Int)), (.int .u64 (0 : Int)), (.int .u64 (0 : Int)), (.int .u64 (0 : Int)), (.int .i64 (1 : Int)), (.int .i64 (-(1 : Int))), (.sl [(.agg [(.int .i64 i10), (.int .u64 i11), (.int .u64 i12), (.int .u64 i13), (.int .u64 i14), (.int .i64 i15), (.int .i64 i16), (.sl l17)])])])
          (.call 76 0 [(.int .u8 (63 : Int)), (.str s22), (.int .i64 i23)] fun o =>
            outT o76x0 o (fun (b24 : Bool) (s25 : List UInt8) (i26 : Int) =>
            .ite b24 (.need ((AV.lows 0 [(.agg [(.int .i64 i10), (.int .u64 i11), (.int .u64 i12), (.int .u64 i13), (.int .u64 i14), (.int .i64 i15), (.int .i64 i16), (.sl l17)])]) = Bool.true) <|
              .jump 1 [(.str s25), (.int .i64 i26), (.int .i64 i2), (.int .u64 i3), (.int .u64 i4), (.int .u64 i5), (.int .u64 i6), (.int .i64 i7), (.int .i64 i8), (.sl l9), (.int .i64 (6 : Int)), (.int .u64 (0 : Int)), (.int .u64 (0 : Int)), (.int .u64 (0 : Int)), (.int .u64 (0 : Int)), (.int .i64 (0 : Int)), (.int .i64 (1 : Int)), (.sl [(.agg [(.int .i64 i10), (.int .u64 i11), (.int .u64 i12), (.int .u64 i13), (.int .u64 i14), (.int .i64 i15), (.int .i64 i16), (.sl l17)])])])
              (.call 76 0 [(.int .u8 (123 : Int)), (.str s25), (.int .i64 i26)] fun o =>
                outT o76x0 o (fun (b27 : Bool) (s28 : List UInt8) (i29 : Int) =>
                .ite b27 (.call 102 0 [(.int .i64 i1), (.str s28), (.int .i64 i29)] fun o =>
                    outT o102x0 o (fun (i34 : Int) (i35 : Int) (s36 : List UInt8) (i37 : Int) =>
                    .nm i34 fun (r38 : Int) =>
                    .nm i35 fun (r39 : Int) =>
                    .need ((AV.lows 0 [(.agg [(.int .i64 i10), (.int .u64 i11), (.int .u64 i12), (.int .u64 i13), (.int .u64 i14), (.int .i64 i15), (.int .i64 i16), (.sl l17)])]) = Bool.true) <|
                    .jump 1 [(.str s36), (.int .i64 i37), (.int .i64 i2), (.int .u64 i3), (.int .u64 i4), (.int .u64 i5), (.int .u64 i6), (.int .i64 i7), (.int .i64 i8), (.sl l9), (.int .i64 (6 : Int)), (.int .u64 (0 : Int)), (.int .u64 (0 : Int)), (.int .u64 (0 : Int)), (.int .u64 (0 : Int)), (.int .i64 r38), (.int .i64 r39), (.sl [(.agg [(.int .i64 i10), (.int .u64 i11), (.int .u64 i12), (.int .u64 i13), (.int .u64 i14), (.int .i64 i15), (.int .i64 i16), (.sl l17)])])])
                     (outT o102x1 o (fun (i30 : Int) (i31 : Int) (s32 : List UInt8) (i33 : Int) =>
                    .done ((.panic (.iface 71 (.agg [(.int .i64 i30), (.int .i64 i31)]))), ⟨[[((.str s32), .no), ((.int .i64 i33), .no)]], ([] : List Nat)⟩))
                     (.fail)))
                  (.need ((AV.lows 0 l17) = Bool.true) <|
                  .need ((AV.lows 0 l17) = Bool.true) <|
                  .done ((.ret ((.agg [(.int .i64 i10), (.int .u64 i11), (.int .u64 i12), (.int .u64 i13), (.int .u64 i14), (.int .i64 i15), (.int .i64 i16), (.sl l17)]), .no)), ⟨[[((.str s28), .no), ((.int .i64 i29), .no)]], ([] : List Nat)⟩)))
                 (.fail)))
             (.fail)))
         (.fail)))
     (.fail)
set_option maxRecDepth 20000 in
theorem e92x1 (call : CallFn) (s0 : List UInt8) (i1 : Int) (i2 : Int) (i3 : Int) (i4 : Int) (i5 : Int) (i6 : Int) (i7 : Int) (i8 : Int) (l9 : List AV) (i10 : Int) (i11 : Int) (i12 : Int) (i13 : Int) (i14 : Int) (i15 : Int) (i16 : Int) (l17 : List AV) : lay.tree call 92 d92 1 [(.str s0), (.int .i64 i1), (.int .i64 i2), (.int .u64 i3), (.int .u64 i4), (.int .u64 i5), (.int .u64 i6), (.int .i64 i7), (.int .i64 i8), (.sl l9), (.int .i64 i10), (.int .u64 i11), (.int .u64 i12), (.int .u64 i13), (.int .u64 i14), (.int .i64 i15), (.int .i64 i16), (.sl l17)] = t92x1 s0 i1 i2 i3 i4 i5 i6 i7 i8 l9 i10 i11 i12 i13 i14 i15 i16 l17 := by kernel_rfl
theorem s92x0 (i0 : Int) (i1 : Int) (i2 : Int) (i3 : Int) (i4 : Int) (i5 : Int) (i6 : Int) (l7 : List AV) (s8 : List UInt8) (i9 : Int) (g : Int → Int → Int → Int → Int → Int → Int → List AV → List UInt8 → Int → Tree) (els : Tree) : outT o92x0 ((.ret ((.agg [(.int .i64 i0), (.int .u64 i1), (.int .u64 i2), (.int .u64 i3), (.int .u64 i4), (.int .i64 i5), (.int .i64 i6), (.sl l7)]), .no)), ⟨[[((.str s8), .no), ((.int .i64 i9), .no)]], ([] : List Nat)⟩) g els = .need (([] : List Nat) = ([] : List Nat)) (g i0 i1 i2 i3 i4 i5 i6 l7 s8 i9) := rfl
theorem s92x1 (i0 : Int) (i1 : Int) (s2 : List UInt8) (i3 : Int) (g : Int → Int → List UInt8 → Int → Tree) (els : Tree) : outT o92x1 ((.panic (.iface 71 (.agg [(.int .i64 i0), (.int .i64 i1)]))), ⟨[[((.str s2), .no), ((.int .i64 i3), .no)]], ([] : List Nat)⟩) g els = .need (([] : List Nat) = ([] : List Nat)) (g i0 i1 s2 i3) := rfl
theorem n92x0x1 (i0 : Int) (i1 : Int) (s2 : List UInt8) (i3 : Int) (g : Int → Int → Int → Int → Int → Int → Int → List AV → List UInt8 → Int → Tree) (els : Tree) : outT o92x0 ((.panic (.iface 71 (.agg [(.int .i64 i0), (.int .i64 i1)]))), ⟨[[((.str s2), .no), ((.int .i64 i3), .no)]], ([] : List Nat)⟩) g els = els := rfl
/-! slices.Index[[]int,int] -/
noncomputable def t98x0 (l0 : List AV) (i1 : Int) : Tree :=
  .nm (((List.length l0) : Nat) : Int) fun (r2 : Int) =>
  .jump 1 [(.sl l0), (.int .i64 i1), (.int .i64 r2), (.int .i64 (0 : Int))]
set_option maxRecDepth 20000 in
theorem e98x0 (call : CallFn) (l0 : List AV) (i1 : Int) : lay.tree call 98 d98 0 [(.sl l0), (.int .i64 i1)] = t98x0 l0 i1 := by kernel_rfl
noncomputable def t98x1 (l0 : List AV) (i1 : Int) (i2 : Int) (i3 : Int) : Tree :=
  .nm (decide (i3 < i2)) fun (b4 : Bool) =>
  .ite b4 (.opn [.int .i64] (elemAt l0 i3) <| fun (i5 : Int) =>
    .nm (i1 == i5) fun (b6 : Bool) =>
    .ite b6 (.done ((.ret ((.int .i64 i3), .no)), ⟨[], ([] : List Nat)⟩))
      (.nm (Go.IntKind.wrap .i64 (i3 + (1 : Int))) fun (r7 : Int) =>
      .jump 1 [(.sl l0), (.int .i64 i1), (.int .i64 i2), (.int .i64 r7)]))
    (.done ((.ret ((.int .i64 (-(1 : Int))), .no)), ⟨[], ([] : List Nat)⟩))
set_option maxRecDepth 20000 in
theorem e98x1 (call : CallFn) (l0 : List AV) (i1 : Int) (i2 : Int) (i3 : Int) : lay.tree call 98 d98 1 [(.sl l0), (.int .i64 i1), (.int .i64 i2), (.int .i64 i3)] = t98x1 l0 i1 i2 i3 := by kernel_rfl
theorem s98x0 (i0 : Int) (g : Int → Tree) (els : Tree) : outT o98x0 ((.ret ((.int .i64 i0), .no)), ⟨[], ([] : List Nat)⟩) g els = .need (([] : List Nat) = ([] : List Nat)) (g i0) := rfl
/-! internal/strconv.Itoa -/
noncomputable def t99x0 (i0 : Int) : Tree :=
  .call 107 0 [(.int .i64 i0), (.int .i64 (10 : Int))] fun o =>
    outT o107x0 o (fun (s1 : List UInt8) =>
    .done ((.ret ((.str s1), .no)), ⟨[], ([] : List Nat)⟩))
     (.fail)
set_option maxRecDepth 20000 in
theorem e99x0 (call : CallFn) (i0 : Int) : lay.tree call 99 d99 0 [(.int .i64 i0)] = t99x0 i0 := by kernel_rfl
theorem s99x0 (s0 : List UInt8) (g : List UInt8 → Tree) (els : Tree) : outT o99x0 ((.ret ((.str s0), .no)), ⟨[], ([] : List Nat)⟩) g els = .need (([] : List Nat) = ([] : List Nat)) (g s0) := rfl
/-! (*auklet/ere.reader).atom -/
noncomputable def t101x0 (i0 : Int) (s1 : List UInt8) (i2 : Int) : Tree :=
  .call 91 0 [(.str s1), (.int .i64 i2)] fun o =>
    outT o91x0 o (fun (i3 : Int) (b4 : Bool) (s5 : List UInt8) (i6 : Int) =>
    .nm i3 fun (r7 : Int) =>
    .nm b4 fun (b8 : Bool) =>
    .nm (r7 == (42 : Int)) fun (b9 : Bool) =>
    .ite b9 (.jump 1 [(.int .i64 i0), (.int .i64 i2), (.int .u8 r7), (.int .u8 r7), (.bool b9), (.str s5), (.int .i64 i6), (.int .i64 (0 : Int)), (.int .u64 (0 : Int)), (.int .u64 (0 : Int)), (.int .u64 (0 : Int)), (.int .u64 (0 : Int)), (.int .i64 (0 : Int)), (.int .i64 (0 : Int)), (.sl [])])
      (.nm (r7 == (43 : Int)) fun (b10 : Bool) =>
      .ite b10 (.jump 1 [(.int .i64 i0), (.int .i64 i2), (.int .u8 r7), (.int .u8 r7), (.bool b10), (.str s5), (.int .i64 i6), (.int .i64 (0 : Int)), (.int .u64 (0 : Int)), (.int .u64 (0 : Int)), (.int .u64 (0 : Int)), (.int .u64 (0 : Int)), (.int .i64 (0 : Int)), (.int .i64 (0 : Int)), (.sl [])])
        (.nm (r7 == (63 : Int)) fun (b11 : Bool) =>
        .ite b11 (.jump 1 [(.int .i64 i0), (.int .i64 i2), (.int .u8 r7), (.int .u8 r7), (.bool b11), (.str s5), (.int .i64 i6), (.int .i64 (0 : Int)), (.int .u64 (0 : Int)), (.int .u64 (0 : Int)), (.int .u64 (0 : Int)), (.int .u64 (0 : Int)), (.int .i64 (0 : Int)), (.int .i64 (0 : Int)), (.sl [])])
          (.nm (r7 == (123 : Int)) fun (b12 : Bool) =>
          .jump 1 [(.int .i64 i0), (.int .i64 i2), (.int .u8 r7), (.int .u8 r7), (.bool b12), (.str s5), (.int .i64 i6), (.int .i64 (0 : Int)), (.int .u64 (0 : Int)), (.int .u64 (0 : Int)), (.int .u64 (0 : Int)), (.int .u64 (0 : Int)), (.int .i64 (0 : Int)), (.int .i64 (0 : Int)), (.sl [])]))))
     (.fail)
set_option maxRecDepth 20000 in
theorem e101x0 (call : CallFn) (i0 : Int) (s1 : List UInt8) (i2 : Int) : lay.tree call 101 d101 0 [(.int .i64 i0), (.str s1), (.int .i64 i2)] = t101x0 i0 s1 i2 := by kernel_rfl
noncomputable def t101x1 (i0 : Int) (i1 : Int) (i2 : Int) (i3 : Int) (b4 : Bool) (s5 : List UInt8) (i6 : Int) (i7 : Int) (i8 : Int) (i9 : Int) (i10 : Int) (i11 : Int) (i12 : Int) (i13 : Int) (l14 : List AV) : Tree :=
  .ite b4 (.call 109 0 [(.int .i64 i1), (.int .i64 (50 : Int)), (.str s5), (.int .i64 i6)] fun o =>
      outT o109x0 o (fun (i15 : Int) (i16 : Int) (s17 : List UInt8) (i18 : Int) =>
      .done ((.panic (.iface 71 (.agg [(.int .i64 i15), (.int .i64 i16)]))), ⟨[[((.str s17), .no), ((.int .i64 i18), .no)]], ([] : List Nat)⟩))
       (.fail))
    (.nm (i3 == (41 : Int)) fun (b19 : Bool) =>
    .ite b19 (.call 109 0 [(.int .i64 i1), (.int .i64 (4 : Int)), (.str s5), (.int .i64 i6)] fun o =>
        outT o109x0 o (fun (i20 : Int) (i21 : Int) (s22 : List UInt8) (i23 : Int) =>
        .done ((.panic (.iface 71 (.agg [(.int .i64 i20), (.int .i64 i21)]))), ⟨[[((.str s22), .no), ((.int .i64 i23), .no)]], ([] : List Nat)⟩))
         (.fail))
      (.nm (i3 == (91 : Int)) fun (b24 : Bool) =>
      .ite b24 (.call 110 0 [(.str s5), (.int .i64 i1)] fun o =>
          outT o110x0 o (fun (i25 : Int) (i26 : Int) (i27 : Int) (i28 : Int) (i29 : Int) (i30 : Int) =>
          .nm i29 fun (r31 : Int) =>
          .nm i30 fun (r32 : Int) =>
          .nm (r32 != (0 : Int)) fun (b33 : Bool) =>
          .ite b33 (.call 109 0 [(.int .i64 i1), (.int .i64 r32), (.str s5), (.int .i64 i6)] fun o =>
              outT o109x0 o (fun (i34 : Int) (i35 : Int) (s36 : List UInt8) (i37 : Int) =>
              .done ((.panic (.iface 71 (.agg [(.int .i64 i34), (.int .i64 i35)]))), ⟨[[((.str s36), .no), ((.int .i64 i37), .no)]], ([] : List Nat)⟩))
               (.fail))
            (.need ((AV.lows 0 []) = Bool.true) <|
            .need ((AV.lows 0 []) = Bool.true) <|
            .done ((.ret ((.agg [(.int .i64 (1 : Int)), (.int .u64 i25), (.int .u64 i26), (.int .u64 i27), (.int .u64 i28), (.int .i64 (0 : Int)), (.int .i64 (0 : Int)), (.sl [])]), .no)), ⟨[[((.str s5), .no), ((.int .i64 r31), .no)]], ([] : List Nat)⟩)))
           (.fail))
        (.jump 2 [(.int .i64 i0), (.int .i64 i1), (.int .u8 i2), (.bool b4), (.bool b19), (.bool b24), (.str s5), (.int .i64 i6), (.int .i64 i7), (.int .u64 i8), (.int .u64 i9), (.int .u64 i10), (.int .u64 i11), (.int .i64 i12), (.int .i64 i13), (.sl l14)])))
set_option maxRecDepth 20000 in
theorem e101x1 (call : CallFn) (i0 : Int) (i1 : Int) (i2 : Int) (i3 : Int) (b4 : Bool) (s5 : List UInt8) (i6 : Int) (i7 : Int) (i8 : Int) (i9 : Int) (i10 : Int) (i11 : Int) (i12 : Int) (i13 : Int) (l14 : List AV) : lay.tree call 101 d101 1 [(.int .i64 i0), (.int .i64 i1), (.int .u8 i2), (.int .u8 i3), (.bool b4), (.str s5), (.int .i64 i6), (.int .i64 i7), (.int .u64 i8), (.int .u64 i9), (.int .u64 i10), (.int .u64 i11), (.int .i64 i12), (.int .i64 i13), (.sl l14)] = t101x1 i0 i1 i2 i3 b4 s5 i6 i7 i8 i9 i10 i11 i12 i13 l14 := by kernel_rfl
noncomputable def t101x2 (i0 : Int) (i1 : Int) (i2 : Int) (b3 : Bool) (b4 : Bool) (b5 : Bool) (s6 : List UInt8) (i7 : Int) (i8 : Int) (i9 : Int) (i10 : Int) (i11 : Int) (i12 : Int) (i13 : Int) (i14 : Int) (l15 : List AV) : Tree :=
  .nm (Go.IntKind.wrap .i64 (i7 + (1 : Int))) fun (r16 : Int) =>
  .nm (i2 == (40 : Int)) fun (b17 : Bool) =>
  .ite b17 (.nm (decide (i0 ≥ (20 : Int))) fun (b18 : Bool) =>
    .ite b18 (.call 109 0 [(.int .i64 i1), (.int .i64 (2 : Int)), (.str s6), (.int .i64 r16)] fun o =>
        outT o109x0 o (fun (i19 : Int) (i20 : Int) (s21 : List UInt8) (i22 : Int) =>
        .done ((.panic (.iface 71 (.agg [(.int .i64 i19), (.int .i64 i20)]))), ⟨[[((.str s21), .no), ((.int .i64 i22), .no)]], ([] : List Nat)⟩))
         (.fail))
      (.jump 3 [(.int .i64 i0), (.int .i64 i1), (.int .u8 i2), (.bool b3), (.bool b4), (.bool b5), (.int .u8 i2), (.bool b17), (.bool b18), (.str s6), (.int .i64 r16), (.int .i64 i8), (.int .u64 i9), (.int .u64 i10), (.int .u64 i11), (.int .u64 i12), (.int .i64 i13), (.int .i64 i14), (.sl l15)]))
    (.nm (i2 == (46 : Int)) fun (b23 : Bool) =>
    .ite b23 (.call 69 0 [(.int .u64 (0 : Int)), (.int .u64 (0 : Int)), (.int .u64 (0 : Int)), (.int .u64 (0 : Int))] fun o =>
        outT o69x0 o (fun (i24 : Int) (i25 : Int) (i26 : Int) (i27 : Int) =>
        .need ((AV.lows 0 []) = Bool.true) <|
        .need ((AV.lows 0 []) = Bool.true) <|
        .done ((.ret ((.agg [(.int .i64 (1 : Int)), (.int .u64 i24), (.int .u64 i25), (.int .u64 i26), (.int .u64 i27), (.int .i64 (0 : Int)), (.int .i64 (0 : Int)), (.sl [])]), .no)), ⟨[[((.str s6), .no), ((.int .i64 r16), .no)]], ([] : List Nat)⟩))
         (.fail))
      (.nm (i2 == (94 : Int)) fun (b28 : Bool) =>
      .ite b28 (.need ((AV.lows 0 []) = Bool.true) <|
        .need ((AV.lows 0 []) = Bool.true) <|
        .done ((.ret ((.agg [(.int .i64 (2 : Int)), (.int .u64 (0 : Int)), (.int .u64 (0 : Int)), (.int .u64 (0 : Int)), (.int .u64 (0 : Int)), (.int .i64 (0 : Int)), (.int .i64 (0 : Int)), (.sl [])]), .no)), ⟨[[((.str s6), .no), ((.int .i64 r16), .no)]], ([] : List Nat)⟩))
        (.nm (i2 == (36 : Int)) fun (b29 : Bool) =>
        .ite b29 (.need ((AV.lows 0 []) = Bool.true) <|
          .need ((AV.lows 0 []) = Bool.true) <|
          .done ((.ret ((.agg [(.int .i64 (3 : Int)), (.int .u64 (0 : Int)), (.int .u64 (0 : Int)), (.int .u64 (0 : Int)), (.int .u64 (0 : Int)), (.int .i64 (0 : Int)), (.int .i64 (0 : Int)), (.sl [])]), .no)), ⟨[[((.str s6), .no), ((.int .i64 r16), .no)]], ([] : List Nat)⟩))
          (.nm (i2 == (92 : Int)) fun (b30 : Bool) =>
          .ite b30 (.call 112 0 [(.str s6), (.int .i64 r16)] fun o =>
              outT o112x0 o (fun (i42 : Int) (i43 : Int) (s44 : List UInt8) (i45 : Int) =>
              .done ((.panic (.iface 71 (.agg [(.int .i64 i42), (.int .i64 i43)]))), ⟨[[((.str s44), .no), ((.int .i64 i45), .no)]], ([] : List Nat)⟩))
               (outT o112x1 o (fun (i31 : Int) (s32 : List UInt8) (i33 : Int) =>
              .call 111 0 [(.int .u8 i31)] fun o =>
                outT o111x0 o (fun (i34 : Int) (i35 : Int) (i36 : Int) (i37 : Int) (i38 : Int) (i39 : Int) (i40 : Int) (l41 : List AV) =>
                .need ((AV.lows 0 l41) = Bool.true) <|
                .need ((AV.lows 0 l41) = Bool.true) <|
                .need ((AV.lows 0 l41) = Bool.true) <|
                .done ((.ret ((.agg [(.int .i64 i34), (.int .u64 i35), (.int .u64 i36), (.int .u64 i37), (.int .u64 i38), (.int .i64 i39), (.int .i64 i40), (.sl l41)]), .no)), ⟨[[((.str s32), .no), ((.int .i64 i33), .no)]], ([] : List Nat)⟩))
                 (.fail))
               (.fail)))
            (.call 111 0 [(.int .u8 i2)] fun o =>
              outT o111x0 o (fun (i46 : Int) (i47 : Int) (i48 : Int) (i49 : Int) (i50 : Int) (i51 : Int) (i52 : Int) (l53 : List AV) =>
              .need ((AV.lows 0 l53) = Bool.true) <|
              .need ((AV.lows 0 l53) = Bool.true) <|
              .need ((AV.lows 0 l53) = Bool.true) <|
              .done ((.ret ((.agg [(.int .i64 i46), (.int .u64 i47), (.int .u64 i48), (.int .u64 i49), (.int .u64 i50), (.int .i64 i51), (.int .i64 i52), (.sl l53)]), .no)), ⟨[[((.str s6), .no), ((.int .i64 r16), .no)]], ([] : List Nat)⟩))
               (.fail))))))
set_option maxRecDepth 20000 in
theorem e101x2 (call : CallFn) (i0 : Int) (i1 : Int) (i2 : Int) (b3 : Bool) (b4 : Bool) (b5 : Bool) (s6 : List UInt8) (i7 : Int) (i8 : Int) (i9 : Int) (i10 : Int) (i11 : Int) (i12 : Int) (i13 : Int) (i14 : Int) (l15 : List AV) : lay.tree call 101 d101 2 [(.int .i64 i0), (.int .i64 i1), (.int .u8 i2), (.bool b3), (.bool b4), (.bool b5), (.str s6), (.int .i64 i7), (.int .i64 i8), (.int .u64 i9), (.int .u64 i10), (.int .u64 i11), (.int .u64 i12), (.int .i64 i13), (.int .i64 i14), (.sl l15)] = t101x2 i0 i1 i2 b3 b4 b5 s6 i7 i8 i9 i10 i11 i12 i13 i14 l15 := by kernel_rfl
noncomputable def t101x3 (i0 : Int) (i1 : Int) (i2 : Int) (b3 : Bool) (b4 : Bool) (b5 : Bool) (i6 : Int) (b7 : Bool) (b8 : Bool) (s9 : List UInt8) (i10 : Int) (i11 : Int) (i12 : Int) (i13 : Int) (i14 : Int) (i15 : Int) (i16 : Int) (i17 : Int) (l18 : List AV) : Tree :=
  .nm (Go.IntKind.wrap .i64 (i0 + (1 : Int))) fun (r19 : Int) =>
  .call 53 0 [(.int .i64 r19), (.str s9), (.int .i64 i10)] fun o =>
    outT o53x0 o (fun (i24 : Int) (i25 : Int) (i26 : Int) (i27 : Int) (i28 : Int) (i29 : Int) (i30 : Int) (l31 : List AV) (s32 : List UInt8) (i33 : Int) =>
    .need ((AV.lows 0 l31) = Bool.true) <|
    .need ((AV.lows 0 l31) = Bool.true) <|
    .call 76 0 [(.int .u8 (41 : Int)), (.str s32), (.int .i64 i33)] fun o =>
      outT o76x0 o (fun (b34 : Bool) (s35 : List UInt8) (i36 : Int) =>
      .nm (Bool.not b34) fun (b37 : Bool) =>
      .ite b37 (.call 109 0 [(.int .i64 i36), (.int .i64 (3 : Int)), (.str s35), (.int .i64 i36)] fun o =>
          outT o109x0 o (fun (i38 : Int) (i39 : Int) (s40 : List UInt8) (i41 : Int) =>
          .done ((.panic (.iface 71 (.agg [(.int .i64 i38), (.int .i64 i39)]))), ⟨[[((.str s40), .no), ((.int .i64 i41), .no)]], ([] : List Nat)⟩))
           (.fail))
        (.need ((AV.lows 0 l31) = Bool.true) <|
        .need ((AV.lows 0 l31) = Bool.true) <|
        .done ((.ret ((.agg [(.int .i64 i24), (.int .u64 i25), (.int .u64 i26), (.int .u64 i27), (.int .u64 i28), (.int .i64 i29), (.int .i64 i30), (.sl l31)]), .no)), ⟨[[((.str s35), .no), ((.int .i64 i36), .no)]], ([] : List Nat)⟩)))
       (.fail))
     (outT o53x1 o (fun (i20 : Int) (i21 : Int) (s22 : List UInt8) (i23 : Int) =>
    .done ((.panic (.iface 71 (.agg [(.int .i64 i20), (.int .i64 i21)]))), ⟨[[((.str s22), .no), ((.int .i64 i23), .no)]], ([] : List Nat)⟩))
     (.fail))
set_option maxRecDepth 20000 in
theorem e101x3 (call : CallFn) (i0 : Int) (i1 : Int) (i2 : Int) (b3 : Bool) (b4 : Bool) (b5 : Bool) (i6 : Int) (b7 : Bool) (b8 : Bool) (s9 : List UInt8) (i10 : Int) (i11 : Int) (i12 : Int) (i13 : Int) (i14 : Int) (i15 : Int) (i16 : Int) (i17 : Int) (l18 : List AV) : lay.tree call 101 d101 3 [(.int .i64 i0), (.int .i64 i1), (.int .u8 i2), (.bool b3), (.bool b4), (.bool b5), (.int .u8 i6), (.bool b7), (.bool b8), (.str s9), (.int .i64 i10), (.int .i64 i11), (.int .u64 i12), (.int .u64 i13), (.int .u64 i14), (.int .u64 i15), (.int .i64 i16), (.int .i64 i17), (.sl l18)] = t101x3 i0 i1 i2 b3 b4 b5 i6 b7 b8 s9 i10 i11 i12 i13 i14 i15 i16 i17 l18 := by kernel_rfl
theorem s101x0 (i0 : Int) (i1 : Int) (i2 : Int) (i3 : Int) (i4 : Int) (i5 : Int) (i6 : Int) (l7 : List AV) (s8 : List UInt8) (i9 : Int) (g : Int → Int → Int → Int → Int → Int → Int → List AV → List UInt8 → Int → Tree) (els : Tree) : outT o101x0 ((.ret ((.agg [(.int .i64 i0), (.int .u64 i1), (.int .u64 i2), (.int .u64 i3), (.int .u64 i4), (.int .i64 i5), (.int .i64 i6), (.sl l7)]), .no)), ⟨[[((.str s8), .no), ((.int .i64 i9), .no)]], ([] : List Nat)⟩) g els = .need (([] : List Nat) = ([] : List Nat)) (g i0 i1 i2 i3 i4 i5 i6 l7 s8 i9) := rfl
theorem s101x1 (i0 : Int) (i1 : Int) (s2 : List UInt8) (i3 : Int) (g : Int → Int → List UInt8 → Int → Tree) (els : Tree) : outT o101x1 ((.panic (.iface 71 (.agg [(.int .i64 i0), (.int .i64 i1)]))), ⟨[[((.str s2), .no), ((.int .i64 i3), .no)]], ([] : List Nat)⟩) g els = .need (([] : List Nat) = ([] : List Nat)) (g i0 i1 s2 i3) := rfl
theorem n101x0x1 (i0 : Int) (i1 : Int) (s2 : List UInt8) (i3 : Int) (g : Int → Int → Int → Int → Int → Int → Int → List AV → List UInt8 → Int → Tree) (els : Tree) : outT o101x0 ((.panic (.iface 71 (.agg [(.int .i64 i0), (.int .i64 i1)]))), ⟨[[((.str s2), .no), ((.int .i64 i3), .no)]], ([] : List Nat)⟩) g els = els := rfl
/-! (*auklet/ere.reader).times -/
noncomputable def t102x0 (i0 : Int) (s1 : List UInt8) (i2 : Int) : Tree :=
  .call 113 0 [(.str s1), (.int .i64 i2)] fun o =>
    outT o113x0 o (fun (i3 : Int) (b4 : Bool) (s5 : List UInt8) (i6 : Int) =>
    .nm i3 fun (r7 : Int) =>
    .nm b4 fun (b8 : Bool) =>
    .ite b8 (.call 76 0 [(.int .u8 (44 : Int)), (.str s5), (.int .i64 i6)] fun o =>
        outT o76x0 o (fun (b9 : Bool) (s10 : List UInt8) (i11 : Int) =>
        .ite b9 (.call 76 0 [(.int .u8 (125 : Int)), (.str s10), (.int .i64 i11)] fun o =>
            outT o76x0 o (fun (b12 : Bool) (s13 : List UInt8) (i14 : Int) =>
            .ite b12 (.done ((.ret ((.tup [(.int .i64 r7), (.int .i64 (-(1 : Int)))]), (.agg [.no, .no]))), ⟨[[((.str s13), .no), ((.int .i64 i14), .no)]], ([] : List Nat)⟩))
              (.call 113 0 [(.str s13), (.int .i64 i14)] fun o =>
                outT o113x0 o (fun (i15 : Int) (b16 : Bool) (s17 : List UInt8) (i18 : Int) =>
                .nm i15 fun (r19 : Int) =>
                .nm b16 fun (b20 : Bool) =>
                .nm (Bool.not b20) fun (b21 : Bool) =>
                .ite b21 (.call 109 0 [(.int .i64 i0), (.int .i64 (50 : Int)), (.str s17), (.int .i64 i18)] fun o =>
                    outT o109x0 o (fun (i22 : Int) (i23 : Int) (s24 : List UInt8) (i25 : Int) =>
                    .done ((.panic (.iface 71 (.agg [(.int .i64 i22), (.int .i64 i23)]))), ⟨[[((.str s24), .no), ((.int .i64 i25), .no)]], ([] : List Nat)⟩))
                     (.fail))
                  (.nm (decide (r19 < r7)) fun (b26 : Bool) =>
                  .ite b26 (.call 109 0 [(.int .i64 i0), (.int .i64 (50 : Int)), (.str s17), (.int .i64 i18)] fun o =>
                      outT o109x0 o (fun (i27 : Int) (i28 : Int) (s29 : List UInt8) (i30 : Int) =>
                      .done ((.panic (.iface 71 (.agg [(.int .i64 i27), (.int .i64 i28)]))), ⟨[[((.str s29), .no), ((.int .i64 i30), .no)]], ([] : List Nat)⟩))
                       (.fail))
                    (.call 76 0 [(.int .u8 (125 : Int)), (.str s17), (.int .i64 i18)] fun o =>
                      outT o76x0 o (fun (b31 : Bool) (s32 : List UInt8) (i33 : Int) =>
                      .nm (Bool.not b31) fun (b34 : Bool) =>
                      .ite b34 (.call 109 0 [(.int .i64 i0), (.int .i64 (50 : Int)), (.str s32), (.int .i64 i33)] fun o =>
                          outT o109x0 o (fun (i35 : Int) (i36 : Int) (s37 : List UInt8) (i38 : Int) =>
                          .done ((.panic (.iface 71 (.agg [(.int .i64 i35), (.int .i64 i36)]))), ⟨[[((.str s37), .no), ((.int .i64 i38), .no)]], ([] : List Nat)⟩))
                           (.fail))
                        (.done ((.ret ((.tup [(.int .i64 r7), (.int .i64 r19)]), (.agg [.no, .no]))), ⟨[[((.str s32), .no), ((.int .i64 i33), .no)]], ([] : List Nat)⟩)))
                       (.fail))))
                 (.fail)))
             (.fail))
          (.nm (Bool.not b8) fun (b39 : Bool) =>
          .ite b39 (.call 109 0 [(.int .i64 i0), (.int .i64 (50 : Int)), (.str s10), (.int .i64 i11)] fun o =>
              outT o109x0 o (fun (i40 : Int) (i41 : Int) (s42 : List UInt8) (i43 : Int) =>
              .done ((.panic (.iface 71 (.agg [(.int .i64 i40), (.int .i64 i41)]))), ⟨[[((.str s42), .no), ((.int .i64 i43), .no)]], ([] : List Nat)⟩))
               (.fail))
            (.nm (decide (r7 < r7)) fun (b44 : Bool) =>
            .ite b44 (.call 109 0 [(.int .i64 i0), (.int .i64 (50 : Int)), (.str s10), (.int .i64 i11)] fun o =>
                outT o109x0 o (fun (i45 : Int) (i46 : Int) (s47 : List UInt8) (i48 : Int) =>
                .done ((.panic (.iface 71 (.agg [(.int .i64 i45), (.int .i64 i46)]))), ⟨[[((.str s47), .no), ((.int .i64 i48), .no)]], ([] : List Nat)⟩))
                 (.fail))
              (.call 76 0 [(.int .u8 (125 : Int)), (.str s10), (.int .i64 i11)] fun o =>
                outT o76x0 o (fun (b49 : Bool) (s50 : List UInt8) (i51 : Int) =>
                .nm (Bool.not b49) fun (b52 : Bool) =>
                .ite b52 (.call 109 0 [(.int .i64 i0), (.int .i64 (50 : Int)), (.str s50), (.int .i64 i51)] fun o =>
                    outT o109x0 o (fun (i53 : Int) (i54 : Int) (s55 : List UInt8) (i56 : Int) =>
                    .done ((.panic (.iface 71 (.agg [(.int .i64 i53), (.int .i64 i54)]))), ⟨[[((.str s55), .no), ((.int .i64 i56), .no)]], ([] : List Nat)⟩))
                     (.fail))
                  (.done ((.ret ((.tup [(.int .i64 r7), (.int .i64 r7)]), (.agg [.no, .no]))), ⟨[[((.str s50), .no), ((.int .i64 i51), .no)]], ([] : List Nat)⟩)))
                 (.fail)))))
         (.fail))
      (.nm (Bool.not b8) fun (b57 : Bool) =>
      .ite b57 (.call 109 0 [(.int .i64 i0), (.int .i64 (50 : Int)), (.str s5), (.int .i64 i6)] fun o =>
          outT o109x0 o (fun (i58 : Int) (i59 : Int) (s60 : List UInt8) (i61 : Int) =>
          .done ((.panic (.iface 71 (.agg [(.int .i64 i58), (.int .i64 i59)]))), ⟨[[((.str s60), .no), ((.int .i64 i61), .no)]], ([] : List Nat)⟩))
           (.fail))
        (.nm (decide (r7 < r7)) fun (b62 : Bool) =>
        .ite b62 (.call 109 0 [(.int .i64 i0), (.int .i64 (50 : Int)), (.str s5), (.int .i64 i6)] fun o =>
            outT o109x0 o (fun (i63 : Int) (i64 : Int) (s65 : List UInt8) (i66 : Int) =>
            .done ((.panic (.iface 71 (.agg [(.int .i64 i63), (.int .i64 i64)]))), ⟨[[((.str s65), .no), ((.int .i64 i66), .no)]], ([] : List Nat)⟩))
             (.fail))
          (.call 76 0 [(.int .u8 (125 : Int)), (.str s5), (.int .i64 i6)] fun o =>
            outT o76x0 o (fun (b67 : Bool) (s68 : List UInt8) (i69 : Int) =>
            .nm (Bool.not b67) fun (b70 : Bool) =>
            .ite b70 (.call 109 0 [(.int .i64 i0), (.int .i64 (50 : Int)), (.str s68), (.int .i64 i69)] fun o =>
                outT o109x0 o (fun (i71 : Int) (i72 : Int) (s73 : List UInt8) (i74 : Int) =>
                .done ((.panic (.iface 71 (.agg [(.int .i64 i71), (.int .i64 i72)]))), ⟨[[((.str s73), .no), ((.int .i64 i74), .no)]], ([] : List Nat)⟩))
                 (.fail))
              (.done ((.ret ((.tup [(.int .i64 r7), (.int .i64 r7)]), (.agg [.no, .no]))), ⟨[[((.str s68), .no), ((.int .i64 i69), .no)]], ([] : List Nat)⟩)))
             (.fail)))))
     (.fail)
set_option maxRecDepth 20000 in
theorem e102x0 (call : CallFn) (i0 : Int) (s1 : List UInt8) (i2 : Int) : lay.tree call 102 d102 0 [(.int .i64 i0), (.str s1), (.int .i64 i2)] = t102x0 i0 s1 i2 := by kernel_rfl
theorem s102x0 (i0 : Int) (i1 : Int) (s2 : List UInt8) (i3 : Int) (g : Int → Int → List UInt8 → Int → Tree) (els : Tree) : outT o102x0 ((.ret ((.tup [(.int .i64 i0), (.int .i64 i1)]), (.agg [.no, .no]))), ⟨[[((.str s2), .no), ((.int .i64 i3), .no)]], ([] : List Nat)⟩) g els = .need (([] : List Nat) = ([] : List Nat)) (g i0 i1 s2 i3) := rfl
/-! internal/strconv.FormatInt -/
noncomputable def t107x0 (i0 : Int) (i1 : Int) : Tree :=
  .nm (i1 == (10 : Int)) fun (b2 : Bool) =>
  .ite b2 (.nm (decide ((0 : Int) ≤ i0)) fun (b3 : Bool) =>
    .ite b3 (.nm (decide (i0 < (100 : Int))) fun (b4 : Bool) =>
      .ite b4 (.call 117 0 [(.int .i64 i0)] fun o =>
          outT o117x0 o (fun (s5 : List UInt8) =>
          .done ((.ret ((.str s5), .no)), ⟨[], ([] : List Nat)⟩))
           (.fail))
        (.nm (Go.IntKind.wrap .u64 i0) fun (r6 : Int) =>
        .nm (decide (i0 < (0 : Int))) fun (b7 : Bool) =>
        .ite b7 (.nm (Go.IntKind.wrap .u64 ((0 : Int) - r6)) fun (r8 : Int) =>
          .fail)
          (.fail)))
      (.nm (Go.IntKind.wrap .u64 i0) fun (r9 : Int) =>
      .nm (decide (i0 < (0 : Int))) fun (b10 : Bool) =>
      .ite b10 (.nm (Go.IntKind.wrap .u64 ((0 : Int) - r9)) fun (r11 : Int) =>
        .fail)
        (.fail)))
    (.nm (Go.IntKind.wrap .u64 i0) fun (r12 : Int) =>
    .nm (decide (i0 < (0 : Int))) fun (b13 : Bool) =>
    .need ((AV.lows 0 []) = Bool.true) <|
    .fail)
set_option maxRecDepth 20000 in
theorem e107x0 (call : CallFn) (i0 : Int) (i1 : Int) : lay.tree call 107 d107 0 [(.int .i64 i0), (.int .i64 i1)] = t107x0 i0 i1 := by kernel_rfl
theorem s107x0 (s0 : List UInt8) (g : List UInt8 → Tree) (els : Tree) : outT o107x0 ((.ret ((.str s0), .no)), ⟨[], ([] : List Nat)⟩) g els = .need (([] : List Nat) = ([] : List Nat)) (g s0) := rfl
/-! (*auklet/ere.reader).fail -/
noncomputable def t109x0 (i0 : Int) (i1 : Int) (s2 : List UInt8) (i3 : Int) : Tree :=
  .done ((.panic (.iface 71 (.agg [(.int .i64 i0), (.int .i64 i1)]))), ⟨[[((.str s2), .no), ((.int .i64 i3), .no)]], ([] : List Nat)⟩)
set_option maxRecDepth 20000 in
theorem e109x0 (call : CallFn) (i0 : Int) (i1 : Int) (s2 : List UInt8) (i3 : Int) : lay.tree call 109 d109 0 [(.int .i64 i0), (.int .i64 i1), (.str s2), (.int .i64 i3)] = t109x0 i0 i1 s2 i3 := by kernel_rfl
theorem s109x0 (i0 : Int) (i1 : Int) (s2 : List UInt8) (i3 : Int) (g : Int → Int → List UInt8 → Int → Tree) (els : Tree) : outT o109x0 ((.panic (.iface 71 (.agg [(.int .i64 i0), (.int .i64 i1)]))), ⟨[[((.str s2), .no), ((.int .i64 i3), .no)]], ([] : List Nat)⟩) g els = .need (([] : List Nat) = ([] : List Nat)) (g i0 i1 s2 i3) := rfl
/-! auklet/class.Parse -/
noncomputable def t110x0 (s0 : List UInt8) (i1 : Int) : Tree :=
  .nm (decide (i1 < (0 : Int))) fun (b2 : Bool) =>
  .ite b2 (.done ((.ret ((.tup [(.agg [(.int .u64 (0 : Int)), (.int .u64 (0 : Int)), (.int .u64 (0 : Int)), (.int .u64 (0 : Int))]), (.int .i64 (0 : Int)), (.int .i64 (1 : Int))]), (.agg [.no, .no, .no]))), ⟨[], ([] : List Nat)⟩))
    (.nm (((List.length s0) : Nat) : Int) fun (r3 : Int) =>
    .nm (decide (i1 ≥ r3)) fun (b4 : Bool) =>
    .ite b4 (.done ((.ret ((.tup [(.agg [(.int .u64 (0 : Int)), (.int .u64 (0 : Int)), (.int .u64 (0 : Int)), (.int .u64 (0 : Int))]), (.int .i64 (0 : Int)), (.int .i64 (1 : Int))]), (.agg [.no, .no, .no]))), ⟨[], ([] : List Nat)⟩))
      (.bind (byteAt s0 i1) fun (r5 : Int) =>
      .nm (r5 != (91 : Int)) fun (b6 : Bool) =>
      .ite b6 (.done ((.ret ((.tup [(.agg [(.int .u64 (0 : Int)), (.int .u64 (0 : Int)), (.int .u64 (0 : Int)), (.int .u64 (0 : Int))]), (.int .i64 (0 : Int)), (.int .i64 (1 : Int))]), (.agg [.no, .no, .no]))), ⟨[], ([] : List Nat)⟩))
        (.nm (Go.IntKind.wrap .i64 (i1 + (1 : Int))) fun (r7 : Int) =>
        .call 121 0 [(.str ([94] : List UInt8)), (.str s0), (.int .i64 r7)] fun o =>
          outT o121x0 o (fun (b8 : Bool) (s9 : List UInt8) (i10 : Int) =>
          .ite b8 (.nm (Go.IntKind.wrap .i64 (i10 + (1 : Int))) fun (r11 : Int) =>
            .jump 1 [(.bool b8), (.bool Bool.true), (.bool b6), (.bool b8), (.int .u64 (0 : Int)), (.int .u64 (0 : Int)), (.int .u64 (0 : Int)), (.int .u64 (0 : Int)), (.str s9), (.int .i64 r11), (.int .u64 (0 : Int)), (.int .u64 (0 : Int)), (.int .u64 (0 : Int)), (.int .u64 (0 : Int))])
            (.jump 1 [(.bool b8), (.bool Bool.true), (.bool b6), (.bool b8), (.int .u64 (0 : Int)), (.int .u64 (0 : Int)), (.int .u64 (0 : Int)), (.int .u64 (0 : Int)), (.str s9), (.int .i64 i10), (.int .u64 (0 : Int)), (.int .u64 (0 : Int)), (.int .u64 (0 : Int)), (.int .u64 (0 : Int))]))
           (.fail))))
set_option maxRecDepth 20000 in
theorem e110x0 (call : CallFn) (s0 : List UInt8) (i1 : Int) : lay.tree call 110 d110 0 [(.str s0), (.int .i64 i1)] = t110x0 s0 i1 := by kernel_rfl
noncomputable def t110x1 (b0 : Bool) (b1 : Bool) (b2 : Bool) (b3 : Bool) (i4 : Int) (i5 : Int) (i6 : Int) (i7 : Int) (s8 : List UInt8) (i9 : Int) (i10 : Int) (i11 : Int) (i12 : Int) (i13 : Int) : Tree :=
  .ite b1 (.call 122 0 [(.str s8), (.int .i64 i9)] fun o =>
      outT o122x0 o (fun (i14 : Int) (i15 : Int) (i16 : Int) (i17 : Int) (i18 : Int) (s19 : List UInt8) (i20 : Int) =>
      .nm i18 fun (r21 : Int) =>
      .nm (r21 != (0 : Int)) fun (b22 : Bool) =>
      .ite b22 (.done ((.ret ((.tup [(.agg [(.int .u64 (0 : Int)), (.int .u64 (0 : Int)), (.int .u64 (0 : Int)), (.int .u64 (0 : Int))]), (.int .i64 (0 : Int)), (.int .i64 r21)]), (.agg [.no, .no, .no]))), ⟨[], ([] : List Nat)⟩))
        (.call 123 0 [(.int .u64 i10), (.int .u64 i11), (.int .u64 i12), (.int .u64 i13), (.int .u64 i14), (.int .u64 i15), (.int .u64 i16), (.int .u64 i17)] fun o =>
          outT o123x0 o (fun (i23 : Int) (i24 : Int) (i25 : Int) (i26 : Int) =>
          .jump 1 [(.bool b0), (.bool Bool.false), (.bool b2), (.bool b3), (.int .u64 i4), (.int .u64 i5), (.int .u64 i6), (.int .u64 i7), (.str s19), (.int .i64 i20), (.int .u64 i23), (.int .u64 i24), (.int .u64 i25), (.int .u64 i26)])
           (.fail)))
       (.fail))
    (.call 121 0 [(.str ([93] : List UInt8)), (.str s8), (.int .i64 i9)] fun o =>
      outT o121x0 o (fun (b27 : Bool) (s28 : List UInt8) (i29 : Int) =>
      .nm (Bool.not b27) fun (b30 : Bool) =>
      .ite b30 (.call 122 0 [(.str s28), (.int .i64 i29)] fun o =>
          outT o122x0 o (fun (i31 : Int) (i32 : Int) (i33 : Int) (i34 : Int) (i35 : Int) (s36 : List UInt8) (i37 : Int) =>
          .nm i35 fun (r38 : Int) =>
          .nm (r38 != (0 : Int)) fun (b39 : Bool) =>
          .ite b39 (.done ((.ret ((.tup [(.agg [(.int .u64 (0 : Int)), (.int .u64 (0 : Int)), (.int .u64 (0 : Int)), (.int .u64 (0 : Int))]), (.int .i64 (0 : Int)), (.int .i64 r38)]), (.agg [.no, .no, .no]))), ⟨[], ([] : List Nat)⟩))
            (.call 123 0 [(.int .u64 i10), (.int .u64 i11), (.int .u64 i12), (.int .u64 i13), (.int .u64 i31), (.int .u64 i32), (.int .u64 i33), (.int .u64 i34)] fun o =>
              outT o123x0 o (fun (i40 : Int) (i41 : Int) (i42 : Int) (i43 : Int) =>
              .jump 1 [(.bool b0), (.bool Bool.false), (.bool b2), (.bool b3), (.int .u64 i4), (.int .u64 i5), (.int .u64 i6), (.int .u64 i7), (.str s36), (.int .i64 i37), (.int .u64 i40), (.int .u64 i41), (.int .u64 i42), (.int .u64 i43)])
               (.fail)))
           (.fail))
        (.ite b0 (.call 86 0 [(.int .u64 i10), (.int .u64 i11), (.int .u64 i12), (.int .u64 i13)] fun o =>
            outT o86x0 o (fun (i44 : Int) (i45 : Int) (i46 : Int) (i47 : Int) =>
            .nm (Go.IntKind.wrap .i64 (i29 + (1 : Int))) fun (r48 : Int) =>
            .need ((((.int .i64 i29), .no) : SV) = ((.int .i64 i29), .no)) <|
            .done ((.ret ((.tup [(.agg [(.int .u64 i44), (.int .u64 i45), (.int .u64 i46), (.int .u64 i47)]), (.int .i64 r48), (.int .i64 (0 : Int))]), (.agg [.no, .no, .no]))), ⟨[], ([] : List Nat)⟩))
             (.fail))
          (.nm (Go.IntKind.wrap .i64 (i29 + (1 : Int))) fun (r49 : Int) =>
          .need ((((.int .i64 i29), .no) : SV) = ((.int .i64 i29), .no)) <|
          .done ((.ret ((.tup [(.agg [(.int .u64 i10), (.int .u64 i11), (.int .u64 i12), (.int .u64 i13)]), (.int .i64 r49), (.int .i64 (0 : Int))]), (.agg [.no, .no, .no]))), ⟨[], ([] : List Nat)⟩))))
       (.fail))
set_option maxRecDepth 20000 in
theorem e110x1 (call : CallFn) (b0 : Bool) (b1 : Bool) (b2 : Bool) (b3 : Bool) (i4 : Int) (i5 : Int) (i6 : Int) (i7 : Int) (s8 : List UInt8) (i9 : Int) (i10 : Int) (i11 : Int) (i12 : Int) (i13 : Int) : lay.tree call 110 d110 1 [(.bool b0), (.bool b1), (.bool b2), (.bool b3), (.int .u64 i4), (.int .u64 i5), (.int .u64 i6), (.int .u64 i7), (.str s8), (.int .i64 i9), (.int .u64 i10), (.int .u64 i11), (.int .u64 i12), (.int .u64 i13)] = t110x1 b0 b1 b2 b3 i4 i5 i6 i7 s8 i9 i10 i11 i12 i13 := by kernel_rfl
theorem s110x0 (i0 : Int) (i1 : Int) (i2 : Int) (i3 : Int) (i4 : Int) (i5 : Int) (g : Int → Int → Int → Int → Int → Int → Tree) (els : Tree) : outT o110x0 ((.ret ((.tup [(.agg [(.int .u64 i0), (.int .u64 i1), (.int .u64 i2), (.int .u64 i3)]), (.int .i64 i4), (.int .i64 i5)]), (.agg [.no, .no, .no]))), ⟨[], ([] : List Nat)⟩) g els = .need (([] : List Nat) = ([] : List Nat)) (g i0 i1 i2 i3 i4 i5) := rfl
/-! auklet/ere.one -/
noncomputable def t111x0 (i0 : Int) : Tree :=
  .call 124 0 [(.int .u64 (0 : Int)), (.int .u64 (0 : Int)), (.int .u64 (0 : Int)), (.int .u64 (0 : Int)), (.int .u8 i0), (.int .u8 i0)] fun o =>
    outT o124x0 o (fun (i1 : Int) (i2 : Int) (i3 : Int) (i4 : Int) =>
    .need ((AV.lows 0 []) = Bool.true) <|
    .need ((AV.lows 0 []) = Bool.true) <|
    .done ((.ret ((.agg [(.int .i64 (1 : Int)), (.int .u64 i1), (.int .u64 i2), (.int .u64 i3), (.int .u64 i4), (.int .i64 (0 : Int)), (.int .i64 (0 : Int)), (.sl [])]), .no)), ⟨[], ([] : List Nat)⟩))
     (.fail)
set_option maxRecDepth 20000 in
theorem e111x0 (call : CallFn) (i0 : Int) : lay.tree call 111 d111 0 [(.int .u8 i0)] = t111x0 i0 := by kernel_rfl
theorem s111x0 (i0 : Int) (i1 : Int) (i2 : Int) (i3 : Int) (i4 : Int) (i5 : Int) (i6 : Int) (l7 : List AV) (g : Int → Int → Int → Int → Int → Int → Int → List AV → Tree) (els : Tree) : outT o111x0 ((.ret ((.agg [(.int .i64 i0), (.int .u64 i1), (.int .u64 i2), (.int .u64 i3), (.int .u64 i4), (.int .i64 i5), (.int .i64 i6), (.sl l7)]), .no)), ⟨[], ([] : List Nat)⟩) g els = .need (([] : List Nat) = ([] : List Nat)) (g i0 i1 i2 i3 i4 i5 i6 l7) := rfl
/-! (*auklet/ere.reader).stroke -/
noncomputable def t112x0 (s0 : List UInt8) (i1 : Int) : Tree :=
  .call 91 0 [(.str s0), (.int .i64 i1)] fun o =>
    outT o91x0 o (fun (i2 : Int) (b3 : Bool) (s4 : List UInt8) (i5 : Int) =>
    .nm i2 fun (r6 : Int) =>
    .nm b3 fun (b7 : Bool) =>
    .nm (Bool.not b7) fun (b8 : Bool) =>
    .ite b8 (.call 109 0 [(.int .i64 i5), (.int .i64 (3 : Int)), (.str s4), (.int .i64 i5)] fun o =>
        outT o109x0 o (fun (i9 : Int) (i10 : Int) (s11 : List UInt8) (i12 : Int) =>
        .done ((.panic (.iface 71 (.agg [(.int .i64 i9), (.int .i64 i10)]))), ⟨[[((.str s11), .no), ((.int .i64 i12), .no)]], ([] : List Nat)⟩))
         (.fail))
      (.nm (Go.IntKind.wrap .i64 (i5 + (1 : Int))) fun (r13 : Int) =>
      .nm (r6 == (110 : Int)) fun (b14 : Bool) =>
      .ite b14 (.done ((.ret ((.int .u8 (10 : Int)), .no)), ⟨[[((.str s4), .no), ((.int .i64 r13), .no)]], ([] : List Nat)⟩))
        (.nm (r6 == (116 : Int)) fun (b15 : Bool) =>
        .ite b15 (.done ((.ret ((.int .u8 (9 : Int)), .no)), ⟨[[((.str s4), .no), ((.int .i64 r13), .no)]], ([] : List Nat)⟩))
          (.done ((.ret ((.int .u8 r6), .no)), ⟨[[((.str s4), .no), ((.int .i64 r13), .no)]], ([] : List Nat)⟩)))))
     (.fail)
set_option maxRecDepth 20000 in
theorem e112x0 (call : CallFn) (s0 : List UInt8) (i1 : Int) : lay.tree call 112 d112 0 [(.str s0), (.int .i64 i1)] = t112x0 s0 i1 := by kernel_rfl
theorem s112x0 (i0 : Int) (i1 : Int) (s2 : List UInt8) (i3 : Int) (g : Int → Int → List UInt8 → Int → Tree) (els : Tree) : outT o112x0 ((.panic (.iface 71 (.agg [(.int .i64 i0), (.int .i64 i1)]))), ⟨[[((.str s2), .no), ((.int .i64 i3), .no)]], ([] : List Nat)⟩) g els = .need (([] : List Nat) = ([] : List Nat)) (g i0 i1 s2 i3) := rfl
theorem s112x1 (i0 : Int) (s1 : List UInt8) (i2 : Int) (g : Int → List UInt8 → Int → Tree) (els : Tree) : outT o112x1 ((.ret ((.int .u8 i0), .no)), ⟨[[((.str s1), .no), ((.int .i64 i2), .no)]], ([] : List Nat)⟩) g els = .need (([] : List Nat) = ([] : List Nat)) (g i0 s1 i2) := rfl
theorem n112x0x1 (i0 : Int) (s1 : List UInt8) (i2 : Int) (g : Int → Int → List UInt8 → Int → Tree) (els : Tree) : outT o112x0 ((.ret ((.int .u8 i0), .no)), ⟨[[((.str s1), .no), ((.int .i64 i2), .no)]], ([] : List Nat)⟩) g els = els := rfl
/-! (*auklet/ere.reader).number -/
noncomputable def t113x0 (s0 : List UInt8) (i1 : Int) : Tree :=
  .jump 1 [(.int .i64 (0 : Int)), (.int .i64 (0 : Int)), (.str s0), (.int .i64 i1)]
set_option maxRecDepth 20000 in
theorem e113x0 (call : CallFn) (s0 : List UInt8) (i1 : Int) : lay.tree call 113 d113 0 [(.str s0), (.int .i64 i1)] = t113x0 s0 i1 := by kernel_rfl
noncomputable def t113x1 (i0 : Int) (i1 : Int) (s2 : List UInt8) (i3 : Int) : Tree :=
  .nm (decide (i1 < (2 : Int))) fun (b4 : Bool) =>
  .ite b4 (.call 91 0 [(.str s2), (.int .i64 i3)] fun o =>
      outT o91x0 o (fun (i5 : Int) (b6 : Bool) (s7 : List UInt8) (i8 : Int) =>
      .nm i5 fun (r9 : Int) =>
      .nm b6 fun (b10 : Bool) =>
      .nm (Bool.not b10) fun (b11 : Bool) =>
      .ite b11 (.nm (decide (i1 > (0 : Int))) fun (b12 : Bool) =>
        .ite b12 (.nm (decide (i0 ≤ (50 : Int))) fun (b13 : Bool) =>
          .done ((.ret ((.tup [(.int .i64 i0), (.bool b13)]), (.agg [.no, .no]))), ⟨[[((.str s7), .no), ((.int .i64 i8), .no)]], ([] : List Nat)⟩))
          (.done ((.ret ((.tup [(.int .i64 i0), (.bool Bool.false)]), (.agg [.no, .no]))), ⟨[[((.str s7), .no), ((.int .i64 i8), .no)]], ([] : List Nat)⟩)))
        (.nm (decide (r9 < (48 : Int))) fun (b14 : Bool) =>
        .ite b14 (.nm (decide (i1 > (0 : Int))) fun (b15 : Bool) =>
          .ite b15 (.nm (decide (i0 ≤ (50 : Int))) fun (b16 : Bool) =>
            .done ((.ret ((.tup [(.int .i64 i0), (.bool b16)]), (.agg [.no, .no]))), ⟨[[((.str s7), .no), ((.int .i64 i8), .no)]], ([] : List Nat)⟩))
            (.done ((.ret ((.tup [(.int .i64 i0), (.bool Bool.false)]), (.agg [.no, .no]))), ⟨[[((.str s7), .no), ((.int .i64 i8), .no)]], ([] : List Nat)⟩)))
          (.nm (decide (r9 > (57 : Int))) fun (b17 : Bool) =>
          .ite b17 (.nm (decide (i1 > (0 : Int))) fun (b18 : Bool) =>
            .ite b18 (.nm (decide (i0 ≤ (50 : Int))) fun (b19 : Bool) =>
              .done ((.ret ((.tup [(.int .i64 i0), (.bool b19)]), (.agg [.no, .no]))), ⟨[[((.str s7), .no), ((.int .i64 i8), .no)]], ([] : List Nat)⟩))
              (.done ((.ret ((.tup [(.int .i64 i0), (.bool Bool.false)]), (.agg [.no, .no]))), ⟨[[((.str s7), .no), ((.int .i64 i8), .no)]], ([] : List Nat)⟩)))
            (.nm (Go.IntKind.wrap .i64 ((10 : Int) * i0)) fun (r20 : Int) =>
            .nm (Go.IntKind.wrap .u8 (r9 - (48 : Int))) fun (r21 : Int) =>
            .nm (Go.IntKind.wrap .i64 r21) fun (r22 : Int) =>
            .nm (Go.IntKind.wrap .i64 (r20 + r22)) fun (r23 : Int) =>
            .nm (Go.IntKind.wrap .i64 (i8 + (1 : Int))) fun (r24 : Int) =>
            .nm (Go.IntKind.wrap .i64 (i1 + (1 : Int))) fun (r25 : Int) =>
            .jump 1 [(.int .i64 r23), (.int .i64 r25), (.str s7), (.int .i64 r24)]))))
       (.fail))
    (.nm (decide (i1 > (0 : Int))) fun (b26 : Bool) =>
    .ite b26 (.nm (decide (i0 ≤ (50 : Int))) fun (b27 : Bool) =>
      .done ((.ret ((.tup [(.int .i64 i0), (.bool b27)]), (.agg [.no, .no]))), ⟨[[((.str s2), .no), ((.int .i64 i3), .no)]], ([] : List Nat)⟩))
      (.done ((.ret ((.tup [(.int .i64 i0), (.bool Bool.false)]), (.agg [.no, .no]))), ⟨[[((.str s2), .no), ((.int .i64 i3), .no)]], ([] : List Nat)⟩)))
set_option maxRecDepth 20000 in
theorem e113x1 (call : CallFn) (i0 : Int) (i1 : Int) (s2 : List UInt8) (i3 : Int) : lay.tree call 113 d113 1 [(.int .i64 i0), (.int .i64 i1), (.str s2), (.int .i64 i3)] = t113x1 i0 i1 s2 i3 := by kernel_rfl
theorem s113x0 (i0 : Int) (b1 : Bool) (s2 : List UInt8) (i3 : Int) (g : Int → Bool → List UInt8 → Int → Tree) (els : Tree) : outT o113x0 ((.ret ((.tup [(.int .i64 i0), (.bool b1)]), (.agg [.no, .no]))), ⟨[[((.str s2), .no), ((.int .i64 i3), .no)]], ([] : List Nat)⟩) g els = .need (([] : List Nat) = ([] : List Nat)) (g i0 b1 s2 i3) := rfl
/-! internal/strconv.small -/
noncomputable def t117x0 (i0 : Int) : Tree :=
  .nm (decide (i0 < (10 : Int))) fun (b1 : Bool) =>
  .ite b1 (.nm (Go.IntKind.wrap .i64 (i0 + (1 : Int))) fun (r2 : Int) =>
    .need (inLoHi i0 r2 36) <|
    .done ((.ret ((.str (List.drop (Int.toNat i0) (List.take (Int.toNat r2) ([48, 49, 50, 51, 52, 53, 54, 55, 56, 57, 97, 98, 99, 100, 101, 102, 103, 104, 105, 106, 107, 108, 109, 110, 111, 112, 113, 114, 115, 116, 117, 118, 119, 120, 121, 122] : List UInt8)))), .no)), ⟨[], ([] : List Nat)⟩))
    (.nm (Go.IntKind.wrap .i64 (i0 * (2 : Int))) fun (r3 : Int) =>
    .nm (Go.IntKind.wrap .i64 (i0 * (2 : Int))) fun (r4 : Int) =>
    .nm (Go.IntKind.wrap .i64 (r4 + (2 : Int))) fun (r5 : Int) =>
    .need (inLoHi r3 r5 200) <|
    .done ((.ret ((.str (List.drop (Int.toNat r3) (List.take (Int.toNat r5) ([48, 48, 48, 49, 48, 50, 48, 51, 48, 52, 48, 53, 48, 54, 48, 55, 48, 56, 48, 57, 49, 48, 49, 49, 49, 50, 49, 51, 49, 52, 49, 53, 49, 54, 49, 55, 49, 56, 49, 57, 50, 48, 50, 49, 50, 50, 50, 51, 50, 52, 50, 53, 50, 54, 50, 55, 50, 56, 50, 57, 51, 48, 51, 49, 51, 50, 51, 51, 51, 52, 51, 53, 51, 54, 51, 55, 51, 56, 51, 57, 52, 48, 52, 49, 52, 50, 52, 51, 52, 52, 52, 53, 52, 54, 52, 55, 52, 56, 52, 57, 53, 48, 53, 49, 53, 50, 53, 51, 53, 52, 53, 53, 53, 54, 53, 55, 53, 56, 53, 57, 54, 48, 54, 49, 54, 50, 54, 51, 54, 52, 54, 53, 54, 54, 54, 55, 54, 56, 54, 57, 55, 48, 55, 49, 55, 50, 55, 51, 55, 52, 55, 53, 55, 54, 55, 55, 55, 56, 55, 57, 56, 48, 56, 49, 56, 50, 56, 51, 56, 52, 56, 53, 56, 54, 56, 55, 56, 56, 56, 57, 57, 48, 57, 49, 57, 50, 57, 51, 57, 52, 57, 53, 57, 54, 57, 55, 57, 56, 57, 57] : List UInt8)))), .no)), ⟨[], ([] : List Nat)⟩))
set_option maxRecDepth 20000 in
theorem e117x0 (call : CallFn) (i0 : Int) : lay.tree call 117 d117 0 [(.int .i64 i0)] = t117x0 i0 := by kernel_rfl
theorem s117x0 (s0 : List UInt8) (g : List UInt8 → Tree) (els : Tree) : outT o117x0 ((.ret ((.str s0), .no)), ⟨[], ([] : List Nat)⟩) g els = .need (([] : List Nat) = ([] : List Nat)) (g s0) := rfl
/-! (*auklet/class.reader).comes -/
noncomputable def t121x0 (s0 : List UInt8) (s1 : List UInt8) (i2 : Int) : Tree :=
  .need (inLo i2 (List.length s1)) <|
  .call 55 0 [(.str (List.drop (Int.toNat i2) (List.take (List.length s1) s1))), (.str s0)] fun o =>
    outT o55x0 o (fun (b3 : Bool) =>
    .done ((.ret ((.bool b3), .no)), ⟨[[((.str s1), .no), ((.int .i64 i2), .no)]], ([] : List Nat)⟩))
     (.fail)
set_option maxRecDepth 20000 in
theorem e121x0 (call : CallFn) (s0 : List UInt8) (s1 : List UInt8) (i2 : Int) : lay.tree call 121 d121 0 [(.str s0), (.str s1), (.int .i64 i2)] = t121x0 s0 s1 i2 := by kernel_rfl
theorem s121x0 (b0 : Bool) (s1 : List UInt8) (i2 : Int) (g : Bool → List UInt8 → Int → Tree) (els : Tree) : outT o121x0 ((.ret ((.bool b0), .no)), ⟨[[((.str s1), .no), ((.int .i64 i2), .no)]], ([] : List Nat)⟩) g els = .need (([] : List Nat) = ([] : List Nat)) (g b0 s1 i2) := rfl
/-! (*auklet/class.reader).item -/
noncomputable def t122x0 (s0 : List UInt8) (i1 : Int) : Tree :=
  .call 121 0 [(.str ([91, 58] : List UInt8)), (.str s0), (.int .i64 i1)] fun o =>
    outT o121x0 o (fun (b2 : Bool) (s3 : List UInt8) (i4 : Int) =>
    .ite b2 (.nm (Go.IntKind.wrap .i64 (i4 + (2 : Int))) fun (r5 : Int) =>
      .need (inLo r5 (List.length s3)) <|
      .fail)
      (.call 132 0 [(.str s3), (.int .i64 i4)] fun o =>
        outT o132x0 o (fun (i6 : Int) (b7 : Bool) (s8 : List UInt8) (i9 : Int) =>
        .nm i6 fun (r10 : Int) =>
        .nm b7 fun (b11 : Bool) =>
        .nm (Bool.not b11) fun (b12 : Bool) =>
        .ite b12 (.done ((.ret ((.tup [(.agg [(.int .u64 (0 : Int)), (.int .u64 (0 : Int)), (.int .u64 (0 : Int)), (.int .u64 (0 : Int))]), (.int .i64 (3 : Int))]), (.agg [.no, .no]))), ⟨[[((.str s8), .no), ((.int .i64 i9), .no)]], ([] : List Nat)⟩))
          (.call 121 0 [(.str ([45] : List UInt8)), (.str s8), (.int .i64 i9)] fun o =>
            outT o121x0 o (fun (b13 : Bool) (s14 : List UInt8) (i15 : Int) =>
            .ite b13 (.call 121 0 [(.str ([45, 93] : List UInt8)), (.str s14), (.int .i64 i15)] fun o =>
                outT o121x0 o (fun (b16 : Bool) (s17 : List UInt8) (i18 : Int) =>
                .nm (Bool.not b16) fun (b19 : Bool) =>
                .ite b19 (.call 121 0 [(.str ([45, 91, 58] : List UInt8)), (.str s17), (.int .i64 i18)] fun o =>
                    outT o121x0 o (fun (b20 : Bool) (s21 : List UInt8) (i22 : Int) =>
                    .nm (Bool.not b20) fun (b23 : Bool) =>
                    .ite b23 (.nm (Go.IntKind.wrap .i64 (i22 + (1 : Int))) fun (r24 : Int) =>
                      .call 132 0 [(.str s21), (.int .i64 r24)] fun o =>
                        outT o132x0 o (fun (i25 : Int) (b26 : Bool) (s27 : List UInt8) (i28 : Int) =>
                        .nm i25 fun (r29 : Int) =>
                        .nm b26 fun (b30 : Bool) =>
                        .nm (Bool.not b30) fun (b31 : Bool) =>
                        .ite b31 (.done ((.ret ((.tup [(.agg [(.int .u64 (0 : Int)), (.int .u64 (0 : Int)), (.int .u64 (0 : Int)), (.int .u64 (0 : Int))]), (.int .i64 (3 : Int))]), (.agg [.no, .no]))), ⟨[[((.str s27), .no), ((.int .i64 i28), .no)]], ([] : List Nat)⟩))
                          (.nm (decide (r29 < r10)) fun (b32 : Bool) =>
                          .ite b32 (.done ((.ret ((.tup [(.agg [(.int .u64 (0 : Int)), (.int .u64 (0 : Int)), (.int .u64 (0 : Int)), (.int .u64 (0 : Int))]), (.int .i64 (4 : Int))]), (.agg [.no, .no]))), ⟨[[((.str s27), .no), ((.int .i64 i28), .no)]], ([] : List Nat)⟩))
                            (.call 133 0 [(.int .u64 (0 : Int)), (.int .u64 (0 : Int)), (.int .u64 (0 : Int)), (.int .u64 (0 : Int)), (.int .u8 r10), (.int .u8 r29)] fun o =>
                              outT o133x0 o (fun (i33 : Int) (i34 : Int) (i35 : Int) (i36 : Int) =>
                              .done ((.ret ((.tup [(.agg [(.int .u64 i33), (.int .u64 i34), (.int .u64 i35), (.int .u64 i36)]), (.int .i64 (0 : Int))]), (.agg [.no, .no]))), ⟨[[((.str s27), .no), ((.int .i64 i28), .no)]], ([] : List Nat)⟩))
                               (.fail))))
                         (.fail))
                      (.call 133 0 [(.int .u64 (0 : Int)), (.int .u64 (0 : Int)), (.int .u64 (0 : Int)), (.int .u64 (0 : Int)), (.int .u8 r10), (.int .u8 r10)] fun o =>
                        outT o133x0 o (fun (i37 : Int) (i38 : Int) (i39 : Int) (i40 : Int) =>
                        .done ((.ret ((.tup [(.agg [(.int .u64 i37), (.int .u64 i38), (.int .u64 i39), (.int .u64 i40)]), (.int .i64 (0 : Int))]), (.agg [.no, .no]))), ⟨[[((.str s21), .no), ((.int .i64 i22), .no)]], ([] : List Nat)⟩))
                         (.fail)))
                     (.fail))
                  (.call 133 0 [(.int .u64 (0 : Int)), (.int .u64 (0 : Int)), (.int .u64 (0 : Int)), (.int .u64 (0 : Int)), (.int .u8 r10), (.int .u8 r10)] fun o =>
                    outT o133x0 o (fun (i41 : Int) (i42 : Int) (i43 : Int) (i44 : Int) =>
                    .done ((.ret ((.tup [(.agg [(.int .u64 i41), (.int .u64 i42), (.int .u64 i43), (.int .u64 i44)]), (.int .i64 (0 : Int))]), (.agg [.no, .no]))), ⟨[[((.str s17), .no), ((.int .i64 i18), .no)]], ([] : List Nat)⟩))
                     (.fail)))
                 (.fail))
              (.call 133 0 [(.int .u64 (0 : Int)), (.int .u64 (0 : Int)), (.int .u64 (0 : Int)), (.int .u64 (0 : Int)), (.int .u8 r10), (.int .u8 r10)] fun o =>
                outT o133x0 o (fun (i45 : Int) (i46 : Int) (i47 : Int) (i48 : Int) =>
                .done ((.ret ((.tup [(.agg [(.int .u64 i45), (.int .u64 i46), (.int .u64 i47), (.int .u64 i48)]), (.int .i64 (0 : Int))]), (.agg [.no, .no]))), ⟨[[((.str s14), .no), ((.int .i64 i15), .no)]], ([] : List Nat)⟩))
                 (.fail)))
             (.fail)))
         (.fail)))
     (.fail)
set_option maxRecDepth 20000 in
theorem e122x0 (call : CallFn) (s0 : List UInt8) (i1 : Int) : lay.tree call 122 d122 0 [(.str s0), (.int .i64 i1)] = t122x0 s0 i1 := by kernel_rfl
theorem s122x0 (i0 : Int) (i1 : Int) (i2 : Int) (i3 : Int) (i4 : Int) (s5 : List UInt8) (i6 : Int) (g : Int → Int → Int → Int → Int → List UInt8 → Int → Tree) (els : Tree) : outT o122x0 ((.ret ((.tup [(.agg [(.int .u64 i0), (.int .u64 i1), (.int .u64 i2), (.int .u64 i3)]), (.int .i64 i4)]), (.agg [.no, .no]))), ⟨[[((.str s5), .no), ((.int .i64 i6), .no)]], ([] : List Nat)⟩) g els = .need (([] : List Nat) = ([] : List Nat)) (g i0 i1 i2 i3 i4 s5 i6) := rfl
/-! auklet/class.union -/
noncomputable def t123x0 (i0 : Int) (i1 : Int) (i2 : Int) (i3 : Int) (i4 : Int) (i5 : Int) (i6 : Int) (i7 : Int) : Tree :=
  .jump 1 [(.int .i64 (0 : Int)), (.int .u64 i0), (.int .u64 i1), (.int .u64 i2), (.int .u64 i3), (.int .u64 i4), (.int .u64 i5), (.int .u64 i6), (.int .u64 i7), (.int .u64 (0 : Int)), (.int .u64 (0 : Int)), (.int .u64 (0 : Int)), (.int .u64 (0 : Int))]
set_option maxRecDepth 20000 in
theorem e123x0 (call : CallFn) (i0 : Int) (i1 : Int) (i2 : Int) (i3 : Int) (i4 : Int) (i5 : Int) (i6 : Int) (i7 : Int) : lay.tree call 123 d123 0 [(.int .u64 i0), (.int .u64 i1), (.int .u64 i2), (.int .u64 i3), (.int .u64 i4), (.int .u64 i5), (.int .u64 i6), (.int .u64 i7)] = t123x0 i0 i1 i2 i3 i4 i5 i6 i7 := by kernel_rfl
noncomputable def t123x1 (i0 : Int) (i1 : Int) (i2 : Int) (i3 : Int) (i4 : Int) (i5 : Int) (i6 : Int) (i7 : Int) (i8 : Int) (i9 : Int) (i10 : Int) (i11 : Int) (i12 : Int) : Tree :=
  .nm (decide (i0 < (4 : Int))) fun (b13 : Bool) =>
  .ite b13 (.need (inR i0 4) <|
    .opn [.int .u64] (Option.bind ([((.int .u64 i1), .no), ((.int .u64 i2), .no), ((.int .u64 i3), .no), ((.int .u64 i4), .no)][(0 + ((Int.toNat i0) * 1))]?) plain1) <| fun (i14 : Int) =>
    .need (inR i0 4) <|
    .opn [.int .u64] (Option.bind ([((.int .u64 i5), .no), ((.int .u64 i6), .no), ((.int .u64 i7), .no), ((.int .u64 i8), .no)][(0 + ((Int.toNat i0) * 1))]?) plain1) <| fun (i15 : Int) =>
    .nm (orI .u64 i14 i15) fun (r16 : Int) =>
    .need (inR i0 4) <|
    .need (((0 + ((Int.toNat i0) * 1)) + 1) ≤ 4) <|
    .opn [.int .u64, .int .u64, .int .u64, .int .u64] (plainL (replaceAt [((.int .u64 i1), .no), ((.int .u64 i2), .no), ((.int .u64 i3), .no), ((.int .u64 i4), .no)] (0 + ((Int.toNat i0) * 1)) (keptCells (decide (0 < 0)) (0 + ((Int.toNat i0) * 1)) [((.int .u64 i1), .no), ((.int .u64 i2), .no), ((.int .u64 i3), .no), ((.int .u64 i4), .no)] (expand ((.int .u64 r16), .no))))) <| fun (i17 : Int) (i18 : Int) (i19 : Int) (i20 : Int) =>
    .nm (Go.IntKind.wrap .i64 (i0 + (1 : Int))) fun (r21 : Int) =>
    .jump 1 [(.int .i64 r21), (.int .u64 i17), (.int .u64 i18), (.int .u64 i19), (.int .u64 i20), (.int .u64 i5), (.int .u64 i6), (.int .u64 i7), (.int .u64 i8), (.int .u64 i9), (.int .u64 i10), (.int .u64 i11), (.int .u64 i12)])
    (.done ((.ret ((.agg [(.int .u64 i1), (.int .u64 i2), (.int .u64 i3), (.int .u64 i4)]), .no)), ⟨[], ([] : List Nat)⟩))
set_option maxRecDepth 20000 in
theorem e123x1 (call : CallFn) (i0 : Int) (i1 : Int) (i2 : Int) (i3 : Int) (i4 : Int) (i5 : Int) (i6 : Int) (i7 : Int) (i8 : Int) (i9 : Int) (i10 : Int) (i11 : Int) (i12 : Int) : lay.tree call 123 d123 1 [(.int .i64 i0), (.int .u64 i1), (.int .u64 i2), (.int .u64 i3), (.int .u64 i4), (.int .u64 i5), (.int .u64 i6), (.int .u64 i7), (.int .u64 i8), (.int .u64 i9), (.int .u64 i10), (.int .u64 i11), (.int .u64 i12)] = t123x1 i0 i1 i2 i3 i4 i5 i6 i7 i8 i9 i10 i11 i12 := by kernel_rfl
theorem s123x0 (i0 : Int) (i1 : Int) (i2 : Int) (i3 : Int) (g : Int → Int → Int → Int → Tree) (els : Tree) : outT o123x0 ((.ret ((.agg [(.int .u64 i0), (.int .u64 i1), (.int .u64 i2), (.int .u64 i3)]), .no)), ⟨[], ([] : List Nat)⟩) g els = .need (([] : List Nat) = ([] : List Nat)) (g i0 i1 i2 i3) := rfl
/-! auklet/class.Add -/
noncomputable def t124x0 (i0 : Int) (i1 : Int) (i2 : Int) (i3 : Int) (i4 : Int) (i5 : Int) : Tree :=
  .call 133 0 [(.int .u64 i0), (.int .u64 i1), (.int .u64 i2), (.int .u64 i3), (.int .u8 i4), (.int .u8 i5)] fun o =>
    outT o133x0 o (fun (i6 : Int) (i7 : Int) (i8 : Int) (i9 : Int) =>
    .done ((.ret ((.agg [(.int .u64 i6), (.int .u64 i7), (.int .u64 i8), (.int .u64 i9)]), .no)), ⟨[], ([] : List Nat)⟩))
     (.fail)
set_option maxRecDepth 20000 in
theorem e124x0 (call : CallFn) (i0 : Int) (i1 : Int) (i2 : Int) (i3 : Int) (i4 : Int) (i5 : Int) : lay.tree call 124 d124 0 [(.int .u64 i0), (.int .u64 i1), (.int .u64 i2), (.int .u64 i3), (.int .u8 i4), (.int .u8 i5)] = t124x0 i0 i1 i2 i3 i4 i5 := by kernel_rfl
theorem s124x0 (i0 : Int) (i1 : Int) (i2 : Int) (i3 : Int) (g : Int → Int → Int → Int → Tree) (els : Tree) : outT o124x0 ((.ret ((.agg [(.int .u64 i0), (.int .u64 i1), (.int .u64 i2), (.int .u64 i3)]), .no)), ⟨[], ([] : List Nat)⟩) g els = .need (([] : List Nat) = ([] : List Nat)) (g i0 i1 i2 i3) := rfl
/-! (*auklet/class.reader).single -/
noncomputable def t132x0 (s0 : List UInt8) (i1 : Int) : Tree :=
  .call 121 0 [(.str ([92] : List UInt8)), (.str s0), (.int .i64 i1)] fun o =>
    outT o121x0 o (fun (b2 : Bool) (s3 : List UInt8) (i4 : Int) =>
    .ite b2 (.nm (Go.IntKind.wrap .i64 (i4 + (1 : Int))) fun (r5 : Int) =>
      .nm (((List.length s3) : Nat) : Int) fun (r6 : Int) =>
      .nm (r5 == r6) fun (b7 : Bool) =>
      .ite b7 (.done ((.ret ((.tup [(.int .u8 (0 : Int)), (.bool Bool.false)]), (.agg [.no, .no]))), ⟨[[((.str s3), .no), ((.int .i64 r5), .no)]], ([] : List Nat)⟩))
        (.nm (Go.IntKind.wrap .i64 (r5 + (1 : Int))) fun (r8 : Int) =>
        .nm (Go.IntKind.wrap .i64 (r8 - (1 : Int))) fun (r9 : Int) =>
        .bind (byteAt s3 r9) fun (r10 : Int) =>
        .nm (r10 == (110 : Int)) fun (b11 : Bool) =>
        .ite b11 (.done ((.ret ((.tup [(.int .u8 (10 : Int)), (.bool Bool.true)]), (.agg [.no, .no]))), ⟨[[((.str s3), .no), ((.int .i64 r8), .no)]], ([] : List Nat)⟩))
          (.nm (r10 == (116 : Int)) fun (b12 : Bool) =>
          .ite b12 (.done ((.ret ((.tup [(.int .u8 (9 : Int)), (.bool Bool.true)]), (.agg [.no, .no]))), ⟨[[((.str s3), .no), ((.int .i64 r8), .no)]], ([] : List Nat)⟩))
            (.done ((.ret ((.tup [(.int .u8 r10), (.bool Bool.true)]), (.agg [.no, .no]))), ⟨[[((.str s3), .no), ((.int .i64 r8), .no)]], ([] : List Nat)⟩)))))
      (.nm (((List.length s3) : Nat) : Int) fun (r13 : Int) =>
      .nm (i4 == r13) fun (b14 : Bool) =>
      .ite b14 (.done ((.ret ((.tup [(.int .u8 (0 : Int)), (.bool Bool.false)]), (.agg [.no, .no]))), ⟨[[((.str s3), .no), ((.int .i64 i4), .no)]], ([] : List Nat)⟩))
        (.nm (Go.IntKind.wrap .i64 (i4 + (1 : Int))) fun (r15 : Int) =>
        .nm (Go.IntKind.wrap .i64 (r15 - (1 : Int))) fun (r16 : Int) =>
        .bind (byteAt s3 r16) fun (r17 : Int) =>
        .done ((.ret ((.tup [(.int .u8 r17), (.bool Bool.true)]), (.agg [.no, .no]))), ⟨[[((.str s3), .no), ((.int .i64 r15), .no)]], ([] : List Nat)⟩))))
     (.fail)
set_option maxRecDepth 20000 in
theorem e132x0 (call : CallFn) (s0 : List UInt8) (i1 : Int) : lay.tree call 132 d132 0 [(.str s0), (.int .i64 i1)] = t132x0 s0 i1 := by kernel_rfl
theorem s132x0 (i0 : Int) (b1 : Bool) (s2 : List UInt8) (i3 : Int) (g : Int → Bool → List UInt8 → Int → Tree) (els : Tree) : outT o132x0 ((.ret ((.tup [(.int .u8 i0), (.bool b1)]), (.agg [.no, .no]))), ⟨[[((.str s2), .no), ((.int .i64 i3), .no)]], ([] : List Nat)⟩) g els = .need (([] : List Nat) = ([] : List Nat)) (g i0 b1 s2 i3) := rfl
/-! auklet/class.add -/
noncomputable def t133x0 (i0 : Int) (i1 : Int) (i2 : Int) (i3 : Int) (i4 : Int) (i5 : Int) : Tree :=
  .nm (Go.IntKind.wrap .i64 i4) fun (r6 : Int) =>
  .jump 1 [(.int .u8 i5), (.int .i64 r6), (.int .u64 i0), (.int .u64 i1), (.int .u64 i2), (.int .u64 i3), (.int .u64 (0 : Int)), (.int .u64 (0 : Int)), (.int .u64 (0 : Int)), (.int .u64 (0 : Int))]
set_option maxRecDepth 20000 in
theorem e133x0 (call : CallFn) (i0 : Int) (i1 : Int) (i2 : Int) (i3 : Int) (i4 : Int) (i5 : Int) : lay.tree call 133 d133 0 [(.int .u64 i0), (.int .u64 i1), (.int .u64 i2), (.int .u64 i3), (.int .u8 i4), (.int .u8 i5)] = t133x0 i0 i1 i2 i3 i4 i5 := by kernel_rfl
noncomputable def t133x1 (i0 : Int) (i1 : Int) (i2 : Int) (i3 : Int) (i4 : Int) (i5 : Int) (i6 : Int) (i7 : Int) (i8 : Int) (i9 : Int) : Tree :=
  .nm (Go.IntKind.wrap .i64 i0) fun (r10 : Int) =>
  .nm (decide (i1 ≤ r10)) fun (b11 : Bool) =>
  .ite b11 (.need (nonzero (64 : Int)) <|
    .nm (Go.IntKind.wrap .i64 (Int.tdiv i1 (64 : Int))) fun (r12 : Int) =>
    .need (inR r12 4) <|
    .opn [.int .u64] (Option.bind ([((.int .u64 i2), .no), ((.int .u64 i3), .no), ((.int .u64 i4), .no), ((.int .u64 i5), .no)][(0 + ((Int.toNat r12) * 1))]?) plain1) <| fun (i13 : Int) =>
    .need (nonzero (64 : Int)) <|
    .nm (Int.tmod i1 (64 : Int)) fun (r14 : Int) =>
    .need (nonneg r14) <|
    .nm (Go.IntKind.wrap .u64 ((1 : Int) * ((2 : Int) ^ (Min.min (Int.toNat r14) 64)))) fun (r15 : Int) =>
    .nm (orI .u64 i13 r15) fun (r16 : Int) =>
    .need (inR r12 4) <|
    .need (((0 + ((Int.toNat r12) * 1)) + 1) ≤ 4) <|
    .opn [.int .u64, .int .u64, .int .u64, .int .u64] (plainL (replaceAt [((.int .u64 i2), .no), ((.int .u64 i3), .no), ((.int .u64 i4), .no), ((.int .u64 i5), .no)] (0 + ((Int.toNat r12) * 1)) (keptCells (decide (0 < 0)) (0 + ((Int.toNat r12) * 1)) [((.int .u64 i2), .no), ((.int .u64 i3), .no), ((.int .u64 i4), .no), ((.int .u64 i5), .no)] (expand ((.int .u64 r16), .no))))) <| fun (i17 : Int) (i18 : Int) (i19 : Int) (i20 : Int) =>
    .nm (Go.IntKind.wrap .i64 (i1 + (1 : Int))) fun (r21 : Int) =>
    .jump 1 [(.int .u8 i0), (.int .i64 r21), (.int .u64 i17), (.int .u64 i18), (.int .u64 i19), (.int .u64 i20), (.int .u64 i6), (.int .u64 i7), (.int .u64 i8), (.int .u64 i9)])
    (.done ((.ret ((.agg [(.int .u64 i2), (.int .u64 i3), (.int .u64 i4), (.int .u64 i5)]), .no)), ⟨[], ([] : List Nat)⟩))
set_option maxRecDepth 20000 in
theorem e133x1 (call : CallFn) (i0 : Int) (i1 : Int) (i2 : Int) (i3 : Int) (i4 : Int) (i5 : Int) (i6 : Int) (i7 : Int) (i8 : Int) (i9 : Int) : lay.tree call 133 d133 1 [(.int .u8 i0), (.int .i64 i1), (.int .u64 i2), (.int .u64 i3), (.int .u64 i4), (.int .u64 i5), (.int .u64 i6), (.int .u64 i7), (.int .u64 i8), (.int .u64 i9)] = t133x1 i0 i1 i2 i3 i4 i5 i6 i7 i8 i9 := by kernel_rfl
theorem s133x0 (i0 : Int) (i1 : Int) (i2 : Int) (i3 : Int) (g : Int → Int → Int → Int → Tree) (els : Tree) : outT o133x0 ((.ret ((.agg [(.int .u64 i0), (.int .u64 i1), (.int .u64 i2), (.int .u64 i3)]), .no)), ⟨[], ([] : List Nat)⟩) g els = .need (([] : List Nat) = ([] : List Nat)) (g i0 i1 i2 i3) := rfl
end Go.Proofs.YtdiphholophdcaaDoor.T

