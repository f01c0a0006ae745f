import Derived.Test.YtdiphholophdcaaDoorXAbT5
set_option linter.all false
section
open Go Go.Ab
namespace Go.Proofs.YtdiphholophdcaaDoor.T
/-! auklet/aukletlaw11.LexOrder -/
noncomputable def t3x0 (s0 : List UInt8) : Tree :=
  .call 9 0 [(.str s0)] fun o =>
    outT o9x0 o (fun (l1 : List AV) (i2 : Int) (i3 : Int) =>
    .need ((AV.lows 0 l1) = Bool.true) <|
    .nm i2 fun (r4 : Int) =>
    .nm i3 fun (r5 : Int) =>
    .nm (r5 != (0 : Int)) fun (b6 : Bool) =>
    .ite b6 (.nm (((List.length l1) : Nat) : Int) fun (r7 : Int) =>
      .nm (r7 == (0 : Int)) fun (b8 : Bool) =>
      .ite b8 (.done ((.ret ((.bool Bool.true), .no)), ⟨[], ([] : List Nat)⟩))
        (.done ((.ret ((.bool Bool.false), .no)), ⟨[], ([] : List Nat)⟩)))
      (.jump 1 [(.str s0), (.sl l1), (.int .i64 (0 : Int)), (.bool b6)]))
     (.fail)
set_option maxRecDepth 20000 in
theorem e3x0 (call : CallFn) (s0 : List UInt8) : lay.tree call 3 d3 0 [(.str s0)] = t3x0 s0 := by kernel_rfl
noncomputable def t3x1 (s0 : List UInt8) (l1 : List AV) (i2 : Int) (b3 : Bool) : Tree :=
  .nm (((List.length l1) : Nat) : Int) fun (r4 : Int) =>
  .nm (decide (i2 < r4)) fun (b5 : Bool) =>
  .ite b5 (.opn [.int .i64, .str, .int .i64] (elemAt l1 i2) <| fun (i6 : Int) (s7 : List UInt8) (i8 : Int) =>
    .nm (decide (i8 < (0 : Int))) fun (b9 : Bool) =>
    .ite b9 (.done ((.ret ((.bool Bool.false), .no)), ⟨[], ([] : List Nat)⟩))
      (.nm (((List.length s0) : Nat) : Int) fun (r10 : Int) =>
      .nm (decide (i8 > r10)) fun (b11 : Bool) =>
      .ite b11 (.done ((.ret ((.bool Bool.false), .no)), ⟨[], ([] : List Nat)⟩))
        (.nm (decide (i2 > (0 : Int))) fun (b12 : Bool) =>
        .ite b12 (.nm (Go.IntKind.wrap .i64 (i2 - (1 : Int))) fun (r13 : Int) =>
          .opn [.int .i64, .str, .int .i64] (elemAt l1 r13) <| fun (i14 : Int) (s15 : List UInt8) (i16 : Int) =>
          .nm (decide (i8 ≤ i16)) fun (b17 : Bool) =>
          .ite b17 (.nm (i6 != (0 : Int)) fun (b18 : Bool) =>
            .ite b18 (.done ((.ret ((.bool Bool.false), .no)), ⟨[], ([] : List Nat)⟩))
              (.nm (i6 == (0 : Int)) fun (b19 : Bool) =>
              .nm (((List.length l1) : Nat) : Int) fun (r20 : Int) =>
              .nm (Go.IntKind.wrap .i64 (r20 - (1 : Int))) fun (r21 : Int) =>
              .nm (i2 == r21) fun (b22 : Bool) =>
              .nm (Bool.not (b19 == b22)) fun (b23 : Bool) =>
              .ite b23 (.done ((.ret ((.bool Bool.false), .no)), ⟨[], ([] : List Nat)⟩))
                (.nm (i6 != (3 : Int)) fun (b24 : Bool) =>
                .ite b24 (.nm (i6 != (4 : Int)) fun (b25 : Bool) =>
                  .ite b25 (.nm (((List.length s7) : Nat) : Int) fun (r26 : Int) =>
                    .nm (((List.length s0) : Nat) : Int) fun (r27 : Int) =>
                    .nm (Go.IntKind.wrap .i64 (r27 - i8)) fun (r28 : Int) =>
                    .nm (decide (r26 > r28)) fun (b29 : Bool) =>
                    .ite b29 (.done ((.ret ((.bool Bool.false), .no)), ⟨[], ([] : List Nat)⟩))
                      (.nm (((List.length s7) : Nat) : Int) fun (r30 : Int) =>
                      .nm (Go.IntKind.wrap .i64 (i8 + r30)) fun (r31 : Int) =>
                      .need (inLoHi i8 r31 (List.length s0)) <|
                      .nm (Bool.not ((List.drop (Int.toNat i8) (List.take (Int.toNat r31) s0)) == s7)) fun (b32 : Bool) =>
                      .ite b32 (.done ((.ret ((.bool Bool.false), .no)), ⟨[], ([] : List Nat)⟩))
                        (.nm (Go.IntKind.wrap .i64 (i2 + (1 : Int))) fun (r33 : Int) =>
                        .need ((AV.lows 0 l1) = Bool.true) <|
                        .jump 1 [(.str s0), (.sl l1), (.int .i64 r33), (.bool b3)])))
                    (.nm (Go.IntKind.wrap .i64 (i2 + (1 : Int))) fun (r34 : Int) =>
                    .need ((AV.lows 0 l1) = Bool.true) <|
                    .jump 1 [(.str s0), (.sl l1), (.int .i64 r34), (.bool b3)]))
                  (.nm (Go.IntKind.wrap .i64 (i2 + (1 : Int))) fun (r35 : Int) =>
                  .need ((AV.lows 0 l1) = Bool.true) <|
                  .jump 1 [(.str s0), (.sl l1), (.int .i64 r35), (.bool b3)]))))
            (.nm (i6 == (0 : Int)) fun (b36 : Bool) =>
            .nm (((List.length l1) : Nat) : Int) fun (r37 : Int) =>
            .nm (Go.IntKind.wrap .i64 (r37 - (1 : Int))) fun (r38 : Int) =>
            .nm (i2 == r38) fun (b39 : Bool) =>
            .nm (Bool.not (b36 == b39)) fun (b40 : Bool) =>
            .ite b40 (.done ((.ret ((.bool Bool.false), .no)), ⟨[], ([] : List Nat)⟩))
              (.nm (i6 != (3 : Int)) fun (b41 : Bool) =>
              .ite b41 (.nm (i6 != (4 : Int)) fun (b42 : Bool) =>
                .ite b42 (.nm (((List.length s7) : Nat) : Int) fun (r43 : Int) =>
                  .nm (((List.length s0) : Nat) : Int) fun (r44 : Int) =>
                  .nm (Go.IntKind.wrap .i64 (r44 - i8)) fun (r45 : Int) =>
                  .nm (decide (r43 > r45)) fun (b46 : Bool) =>
                  .ite b46 (.done ((.ret ((.bool Bool.false), .no)), ⟨[], ([] : List Nat)⟩))
                    (.nm (((List.length s7) : Nat) : Int) fun (r47 : Int) =>
                    .nm (Go.IntKind.wrap .i64 (i8 + r47)) fun (r48 : Int) =>
                    .need (inLoHi i8 r48 (List.length s0)) <|
                    .nm (Bool.not ((List.drop (Int.toNat i8) (List.take (Int.toNat r48) s0)) == s7)) fun (b49 : Bool) =>
                    .ite b49 (.done ((.ret ((.bool Bool.false), .no)), ⟨[], ([] : List Nat)⟩))
                      (.nm (Go.IntKind.wrap .i64 (i2 + (1 : Int))) fun (r50 : Int) =>
                      .need ((AV.lows 0 l1) = Bool.true) <|
                      .jump 1 [(.str s0), (.sl l1), (.int .i64 r50), (.bool b3)])))
                  (.nm (Go.IntKind.wrap .i64 (i2 + (1 : Int))) fun (r51 : Int) =>
                  .need ((AV.lows 0 l1) = Bool.true) <|
                  .jump 1 [(.str s0), (.sl l1), (.int .i64 r51), (.bool b3)]))
                (.nm (Go.IntKind.wrap .i64 (i2 + (1 : Int))) fun (r52 : Int) =>
                .need ((AV.lows 0 l1) = Bool.true) <|
                .jump 1 [(.str s0), (.sl l1), (.int .i64 r52), (.bool b3)]))))
          (.nm (i6 == (0 : Int)) fun (b53 : Bool) =>
          .nm (((List.length l1) : Nat) : Int) fun (r54 : Int) =>
          .nm (Go.IntKind.wrap .i64 (r54 - (1 : Int))) fun (r55 : Int) =>
          .nm (i2 == r55) fun (b56 : Bool) =>
          .nm (Bool.not (b53 == b56)) fun (b57 : Bool) =>
          .ite b57 (.done ((.ret ((.bool Bool.false), .no)), ⟨[], ([] : List Nat)⟩))
            (.nm (i6 != (3 : Int)) fun (b58 : Bool) =>
            .ite b58 (.nm (i6 != (4 : Int)) fun (b59 : Bool) =>
              .ite b59 (.nm (((List.length s7) : Nat) : Int) fun (r60 : Int) =>
                .nm (((List.length s0) : Nat) : Int) fun (r61 : Int) =>
                .nm (Go.IntKind.wrap .i64 (r61 - i8)) fun (r62 : Int) =>
                .nm (decide (r60 > r62)) fun (b63 : Bool) =>
                .ite b63 (.done ((.ret ((.bool Bool.false), .no)), ⟨[], ([] : List Nat)⟩))
                  (.nm (((List.length s7) : Nat) : Int) fun (r64 : Int) =>
                  .nm (Go.IntKind.wrap .i64 (i8 + r64)) fun (r65 : Int) =>
                  .need (inLoHi i8 r65 (List.length s0)) <|
                  .nm (Bool.not ((List.drop (Int.toNat i8) (List.take (Int.toNat r65) s0)) == s7)) fun (b66 : Bool) =>
                  .ite b66 (.done ((.ret ((.bool Bool.false), .no)), ⟨[], ([] : List Nat)⟩))
                    (.nm (Go.IntKind.wrap .i64 (i2 + (1 : Int))) fun (r67 : Int) =>
                    .need ((AV.lows 0 l1) = Bool.true) <|
                    .jump 1 [(.str s0), (.sl l1), (.int .i64 r67), (.bool b3)])))
                (.nm (Go.IntKind.wrap .i64 (i2 + (1 : Int))) fun (r68 : Int) =>
                .need ((AV.lows 0 l1) = Bool.true) <|
                .jump 1 [(.str s0), (.sl l1), (.int .i64 r68), (.bool b3)]))
              (.nm (Go.IntKind.wrap .i64 (i2 + (1 : Int))) fun (r69 : Int) =>
              .need ((AV.lows 0 l1) = Bool.true) <|
              .jump 1 [(.str s0), (.sl l1), (.int .i64 r69), (.bool b3)]))))))
    (.nm (((List.length l1) : Nat) : Int) fun (r70 : Int) =>
    .nm (decide (r70 > (0 : Int))) fun (b71 : Bool) =>
    .ite b71 (.done ((.ret ((.bool Bool.true), .no)), ⟨[], ([] : List Nat)⟩))
      (.done ((.ret ((.bool Bool.false), .no)), ⟨[], ([] : List Nat)⟩)))
set_option maxRecDepth 20000 in
theorem e3x1 (call : CallFn) (s0 : List UInt8) (l1 : List AV) (i2 : Int) (b3 : Bool) : lay.tree call 3 d3 1 [(.str s0), (.sl l1), (.int .i64 i2), (.bool b3)] = t3x1 s0 l1 i2 b3 := by kernel_rfl
theorem s3x0 (b0 : Bool) (g : Bool → Tree) (els : Tree) : outT o3x0 ((.ret ((.bool b0), .no)), ⟨[], ([] : List Nat)⟩) g els = .need (([] : List Nat) = ([] : List Nat)) (g b0) := rfl
/-! auklet/aukletlaw11.LexQuotes -/
noncomputable def t5x0 (s0 : List UInt8) : Tree :=
  .nm (((List.length s0) : Nat) : Int) fun (r1 : Int) =>
  .nm (decide (r1 > (3000 : Int))) fun (b2 : Bool) =>
  .ite b2 (.done ((.ret ((.bool Bool.true), .no)), ⟨[], ([] : List Nat)⟩))
    (.call 17 0 [(.str s0)] fun o =>
      outT o17x0 o (fun (s3 : List UInt8) =>
      .call 9 0 [(.str s3)] fun o =>
        outT o9x0 o (fun (l4 : List AV) (i5 : Int) (i6 : Int) =>
        .need ((AV.lows 0 l4) = Bool.true) <|
        .nm i5 fun (r7 : Int) =>
        .nm i6 fun (r8 : Int) =>
        .call 18 0 [(.str s0)] fun o =>
          outT o18x0 o (fun (s9 : List UInt8) =>
          .nm (s3 == s9) fun (b10 : Bool) =>
          .ite b10 (.nm (r8 == (0 : Int)) fun (b11 : Bool) =>
            .ite b11 (.nm (((List.length l4) : Nat) : Int) fun (r12 : Int) =>
              .nm (r12 == (2 : Int)) fun (b13 : Bool) =>
              .ite b13 (.opn [.int .i64, .str, .int .i64] (elemAt l4 (0 : Int)) <| fun (i14 : Int) (s15 : List UInt8) (i16 : Int) =>
                .nm (Bool.and (i14 == (3 : Int)) (Bool.and (s15 == s0) (Bool.and (i16 == (0 : Int)) Bool.true))) fun (b17 : Bool) =>
                .ite b17 (.done ((.ret ((.bool Bool.true), .no)), ⟨[], ([] : List Nat)⟩))
                  (.done ((.ret ((.bool Bool.false), .no)), ⟨[], ([] : List Nat)⟩)))
                (.done ((.ret ((.bool Bool.false), .no)), ⟨[], ([] : List Nat)⟩)))
              (.done ((.ret ((.bool Bool.false), .no)), ⟨[], ([] : List Nat)⟩)))
            (.done ((.ret ((.bool Bool.false), .no)), ⟨[], ([] : List Nat)⟩)))
           (.fail))
         (.fail))
       (.fail))
set_option maxRecDepth 20000 in
theorem e5x0 (call : CallFn) (s0 : List UInt8) : lay.tree call 5 d5 0 [(.str s0)] = t5x0 s0 := by kernel_rfl
theorem s5x0 (b0 : Bool) (g : Bool → Tree) (els : Tree) : outT o5x0 ((.ret ((.bool b0), .no)), ⟨[], ([] : List Nat)⟩) g els = .need (([] : List Nat) = ([] : List Nat)) (g b0) := rfl
/-! auklet/lex.Words -/
noncomputable def t9x0 (s0 : List UInt8) : Tree :=
  .nm (((List.length s0) : Nat) : Int) fun (r1 : Int) =>
  .nm (decide (r1 > (8000 : Int))) fun (b2 : Bool) =>
  .ite b2 (.need ((AV.lows 0 []) = Bool.true) <|
    .need ((AV.lows 0 []) = Bool.true) <|
    .done ((.ret ((.tup [(.sl []), (.int .i64 (0 : Int)), (.int .i64 (2 : Int))]), (.agg [.no, .no, .no]))), ⟨[], ([] : List Nat)⟩))
    (.need ((AV.lows 0 []) = Bool.true) <|
    .need ([0] = [0]) <|
    .call 32 0 [(.str s0), (.int .i64 (0 : Int)), (.sl [])] fun o =>
      outT o32x0 o (fun (s3 : List UInt8) (i4 : Int) (l5 : List AV) =>
      .need ((AV.lows 0 l5) = Bool.true) <|
      .need ([(List.length l5)] = [(List.length l5)]) <|
      .jump 1 [(.str s0), (.bool b2), (.sl []), (.int .i64 (0 : Int)), (.int .i64 (0 : Int)), (.str s3), (.int .i64 i4), (.sl l5)])
       (.fail))
set_option maxRecDepth 20000 in
theorem e9x0 (call : CallFn) (s0 : List UInt8) : lay.tree call 9 d9 0 [(.str s0)] = t9x0 s0 := by kernel_rfl
noncomputable def t9x1 (s0 : List UInt8) (b1 : Bool) (l2 : List AV) (i3 : Int) (i4 : Int) (s5 : List UInt8) (i6 : Int) (l7 : List AV) : Tree :=
  .nm (((List.length s0) : Nat) : Int) fun (r8 : Int) =>
  .nm (decide (i6 < r8)) fun (b9 : Bool) =>
  .ite b9 (.need ((AV.lows 0 l7) = Bool.true) <|
    .need ([(List.length l7)] = [(List.length l7)]) <|
    .call 33 0 [(.str s5), (.int .i64 i6), (.sl l7)] fun o =>
      outT o33x0 o (fun (s18 : List UInt8) (i19 : Int) (l20 : List AV) =>
      .need ((AV.lows 0 l20) = Bool.true) <|
      .need ((AV.lows 0 l20) = Bool.true) <|
      .need ([(List.length l20)] = [(List.length l20)]) <|
      .call 32 0 [(.str s18), (.int .i64 i19), (.sl l20)] fun o =>
        outT o32x0 o (fun (s21 : List UInt8) (i22 : Int) (l23 : List AV) =>
        .need ((AV.lows 0 l23) = Bool.true) <|
        .need ([(List.length l23)] = [(List.length l23)]) <|
        .jump 1 [(.str s0), (.bool b1), (.sl l2), (.int .i64 i3), (.int .i64 i4), (.str s21), (.int .i64 i22), (.sl l23)])
         (.fail))
       (outT o33x1 o (fun (i10 : Int) (i11 : Int) (s12 : List UInt8) (i13 : Int) (l14 : List AV) =>
      .need ((AV.lows 0 l14) = Bool.true) <|
      .nm (Bool.not Bool.false) fun (b15 : Bool) =>
      .ite b15 (.nm Bool.true fun (b16 : Bool) =>
        .nm (Bool.not b16) fun (b17 : Bool) =>
        .ite b17 (.fail)
          (.need ((AV.lows 0 []) = Bool.true) <|
          .need ((((.int .i64 i10), .no) : SV) = ((.int .i64 i10), .no)) <|
          .need ((((.int .i64 i11), .no) : SV) = ((.int .i64 i11), .no)) <|
          .need ((((.int .i64 i11), .no) : SV) = ((.int .i64 i11), .no)) <|
          .need ((AV.lows 0 []) = Bool.true) <|
          .done ((.ret ((.tup [(.sl []), (.int .i64 i10), (.int .i64 i11)]), (.agg [.no, .no, .no]))), ⟨[], ([] : List Nat)⟩)))
        (.need ((AV.lows 0 l2) = Bool.true) <|
        .done ((.ret ((.tup [(.sl l2), (.int .i64 i3), (.int .i64 i4)]), (.agg [.no, .no, .no]))), ⟨[], ([] : List Nat)⟩)))
       (.fail)))
    (.need ((AV.lows 0 l7) = Bool.true) <|
    .need ([(List.length l7)] = [(List.length l7)]) <|
    .call 34 0 [(.int .i64 (0 : Int)), (.str ([] : List UInt8)), (.int .i64 (0 : Int)), (.str s5), (.int .i64 i6), (.sl l7)] fun o =>
      outT o34x0 o (fun (i29 : Int) (i30 : Int) (s31 : List UInt8) (i32 : Int) (l33 : List AV) =>
      .need ((AV.lows 0 l33) = Bool.true) <|
      .nm (Bool.not Bool.false) fun (b34 : Bool) =>
      .ite b34 (.nm Bool.true fun (b35 : Bool) =>
        .nm (Bool.not b35) fun (b36 : Bool) =>
        .ite b36 (.fail)
          (.need ((AV.lows 0 []) = Bool.true) <|
          .need ((((.int .i64 i29), .no) : SV) = ((.int .i64 i29), .no)) <|
          .need ((((.int .i64 i30), .no) : SV) = ((.int .i64 i30), .no)) <|
          .need ((((.int .i64 i30), .no) : SV) = ((.int .i64 i30), .no)) <|
          .need ((AV.lows 0 []) = Bool.true) <|
          .done ((.ret ((.tup [(.sl []), (.int .i64 i29), (.int .i64 i30)]), (.agg [.no, .no, .no]))), ⟨[], ([] : List Nat)⟩)))
        (.need ((AV.lows 0 l2) = Bool.true) <|
        .done ((.ret ((.tup [(.sl l2), (.int .i64 i3), (.int .i64 i4)]), (.agg [.no, .no, .no]))), ⟨[], ([] : List Nat)⟩)))
       (outT o34x1 o (fun (s24 : List UInt8) (i25 : Int) (l26 : List AV) =>
      .need ((AV.lows 0 l26) = Bool.true) <|
      .need ((AV.lows 0 l26) = Bool.true) <|
      .nm (Bool.not Bool.true) fun (b27 : Bool) =>
      .ite b27 (.nm Bool.false fun (b28 : Bool) =>
        .fail)
        (.need ((AV.lows 0 l26) = Bool.true) <|
        .done ((.ret ((.tup [(.sl l26), (.int .i64 (0 : Int)), (.int .i64 (0 : Int))]), (.agg [.no, .no, .no]))), ⟨[], ([] : List Nat)⟩)))
       (.fail)))
set_option maxRecDepth 20000 in
theorem e9x1 (call : CallFn) (s0 : List UInt8) (b1 : Bool) (l2 : List AV) (i3 : Int) (i4 : Int) (s5 : List UInt8) (i6 : Int) (l7 : List AV) : lay.tree call 9 d9 1 [(.str s0), (.bool b1), (.sl l2), (.int .i64 i3), (.int .i64 i4), (.str s5), (.int .i64 i6), (.sl l7)] = t9x1 s0 b1 l2 i3 i4 s5 i6 l7 := by kernel_rfl
theorem s9x0 (l0 : List AV) (i1 : Int) (i2 : Int) (g : List AV → Int → Int → Tree) (els : Tree) : outT o9x0 ((.ret ((.tup [(.sl l0), (.int .i64 i1), (.int .i64 i2)]), (.agg [.no, .no, .no]))), ⟨[], ([] : List Nat)⟩) g els = .need (([] : List Nat) = ([] : List Nat)) (g l0 i1 i2) := rfl
/-! auklet/lex.Quote -/
noncomputable def t17x0 (s0 : List UInt8) : Tree :=
  .need ([0] = [0]) <|
  .call 42 0 [(.int .u8 (34 : Int)), (.buf 5 ([] : List UInt8))] fun o =>
    outT o42x0 o (fun (s1 : List UInt8) =>
    .nm (((List.length s0) : Nat) : Int) fun (r2 : Int) =>
    .need ([(List.length s1)] = [(List.length s1)]) <|
    .jump 1 [(.slr 1 0 (List.length s0)), (.int .i64 r2), (.int .i64 (0 : Int)), (.buf 5 s1), (.agg (List.map (fun (x : SV) => (x).1) (List.map (fun (x : AV) => ((x, .no) : SV)) (toBytes s0))))])
     (.fail)
set_option maxRecDepth 20000 in
theorem e17x0 (call : CallFn) (s0 : List UInt8) : lay.tree call 17 d17 0 [(.str s0)] = t17x0 s0 := by kernel_rfl
noncomputable def t17x1 (n0 : Nat) (i1 : Int) (i2 : Int) (s3 : List UInt8) (c4 : List AV) : Tree :=
  .nm (decide (i2 < i1)) fun (b5 : Bool) =>
  .ite b5 (.need (inR i2 n0) <|
    .opn [.int .u8] (Option.bind ((List.map (fun (x : AV) => ((x, .no) : SV)) c4)[(0 + ((Int.toNat i2) * 1))]?) plain1) <| fun (i6 : Int) =>
    .nm (i6 == (10 : Int)) fun (b7 : Bool) =>
    .ite b7 (.need ([(List.length s3)] = [(List.length s3)]) <|
      .call 43 0 [(.str ([92, 110] : List UInt8)), (.buf 5 s3)] fun o =>
        outT o43x0 o (fun (i8 : Int) (s9 : List UInt8) =>
        .nm (Go.IntKind.wrap .i64 (i2 + (1 : Int))) fun (r10 : Int) =>
        .need ([(List.length s9)] = [(List.length s9)]) <|
        .jump 1 [(.slr 1 0 n0), (.int .i64 i1), (.int .i64 r10), (.buf 5 s9), (.agg (List.map (fun (x : SV) => (x).1) (List.map (fun (x : AV) => ((x, .no) : SV)) c4)))])
         (.fail))
      (.nm (i6 == (9 : Int)) fun (b11 : Bool) =>
      .ite b11 (.need ([(List.length s3)] = [(List.length s3)]) <|
        .call 43 0 [(.str ([92, 116] : List UInt8)), (.buf 5 s3)] fun o =>
          outT o43x0 o (fun (i12 : Int) (s13 : List UInt8) =>
          .nm (Go.IntKind.wrap .i64 (i2 + (1 : Int))) fun (r14 : Int) =>
          .need ([(List.length s13)] = [(List.length s13)]) <|
          .jump 1 [(.slr 1 0 n0), (.int .i64 i1), (.int .i64 r14), (.buf 5 s13), (.agg (List.map (fun (x : SV) => (x).1) (List.map (fun (x : AV) => ((x, .no) : SV)) c4)))])
           (.fail))
        (.nm (i6 == (92 : Int)) fun (b15 : Bool) =>
        .ite b15 (.ite b15 (.need ([(List.length s3)] = [(List.length s3)]) <|
            .call 42 0 [(.int .u8 (92 : Int)), (.buf 5 s3)] fun o =>
              outT o42x0 o (fun (s16 : List UInt8) =>
              .need ([(List.length s16)] = [(List.length s16)]) <|
              .call 42 0 [(.int .u8 i6), (.buf 5 s16)] fun o =>
                outT o42x0 o (fun (s17 : List UInt8) =>
                .nm (Go.IntKind.wrap .i64 (i2 + (1 : Int))) fun (r18 : Int) =>
                .need ([(List.length s17)] = [(List.length s17)]) <|
                .jump 1 [(.slr 1 0 n0), (.int .i64 i1), (.int .i64 r18), (.buf 5 s17), (.agg (List.map (fun (x : SV) => (x).1) (List.map (fun (x : AV) => ((x, .no) : SV)) c4)))])
                 (.fail))
               (.fail))
            (.need ([(List.length s3)] = [(List.length s3)]) <|
            .call 42 0 [(.int .u8 i6), (.buf 5 s3)] fun o =>
              outT o42x0 o (fun (s19 : List UInt8) =>
              .nm (Go.IntKind.wrap .i64 (i2 + (1 : Int))) fun (r20 : Int) =>
              .need ([(List.length s19)] = [(List.length s19)]) <|
              .jump 1 [(.slr 1 0 n0), (.int .i64 i1), (.int .i64 r20), (.buf 5 s19), (.agg (List.map (fun (x : SV) => (x).1) (List.map (fun (x : AV) => ((x, .no) : SV)) c4)))])
               (.fail)))
          (.nm (i6 == (34 : Int)) fun (b21 : Bool) =>
          .ite b21 (.need ([(List.length s3)] = [(List.length s3)]) <|
            .call 42 0 [(.int .u8 (92 : Int)), (.buf 5 s3)] fun o =>
              outT o42x0 o (fun (s22 : List UInt8) =>
              .need ([(List.length s22)] = [(List.length s22)]) <|
              .call 42 0 [(.int .u8 i6), (.buf 5 s22)] fun o =>
                outT o42x0 o (fun (s23 : List UInt8) =>
                .nm (Go.IntKind.wrap .i64 (i2 + (1 : Int))) fun (r24 : Int) =>
                .need ([(List.length s23)] = [(List.length s23)]) <|
                .jump 1 [(.slr 1 0 n0), (.int .i64 i1), (.int .i64 r24), (.buf 5 s23), (.agg (List.map (fun (x : SV) => (x).1) (List.map (fun (x : AV) => ((x, .no) : SV)) c4)))])
                 (.fail))
               (.fail))
            (.need ([(List.length s3)] = [(List.length s3)]) <|
            .call 42 0 [(.int .u8 i6), (.buf 5 s3)] fun o =>
              outT o42x0 o (fun (s25 : List UInt8) =>
              .nm (Go.IntKind.wrap .i64 (i2 + (1 : Int))) fun (r26 : Int) =>
              .need ([(List.length s25)] = [(List.length s25)]) <|
              .jump 1 [(.slr 1 0 n0), (.int .i64 i1), (.int .i64 r26), (.buf 5 s25), (.agg (List.map (fun (x : SV) => (x).1) (List.map (fun (x : AV) => ((x, .no) : SV)) c4)))])
               (.fail))))))
    (.need ([(List.length s3)] = [(List.length s3)]) <|
    .call 42 0 [(.int .u8 (34 : Int)), (.buf 5 s3)] fun o =>
      outT o42x0 o (fun (s27 : List UInt8) =>
      .need ([(List.length s27)] = [(List.length s27)]) <|
      .call 44 0 [(.buf 5 s27)] fun o =>
        outT o44x0 o (fun (s28 : List UInt8) (s29 : List UInt8) =>
        .done ((.ret ((.str s28), .no)), ⟨[], ([] : List Nat)⟩))
         (.fail))
       (.fail))
set_option maxRecDepth 20000 in
theorem e17x1 (call : CallFn) (n0 : Nat) (i1 : Int) (i2 : Int) (s3 : List UInt8) (c4 : List AV) : lay.tree call 17 d17 1 [(.slr 1 0 n0), (.int .i64 i1), (.int .i64 i2), (.buf 5 s3), (.agg c4)] = t17x1 n0 i1 i2 s3 c4 := by kernel_rfl
theorem s17x0 (s0 : List UInt8) (g : List UInt8 → Tree) (els : Tree) : outT o17x0 ((.ret ((.str s0), .no)), ⟨[], ([] : List Nat)⟩) g els = .need (([] : List Nat) = ([] : List Nat)) (g s0) := rfl
/-! auklet/aukletref11.Quote -/
noncomputable def t18x0 (s0 : List UInt8) : Tree :=
  .jump 1 [(.str s0), (.str ([34] : List UInt8)), (.int .i64 (0 : Int))]
set_option maxRecDepth 20000 in
theorem e18x0 (call : CallFn) (s0 : List UInt8) : lay.tree call 18 d18 0 [(.str s0)] = t18x0 s0 := by kernel_rfl
noncomputable def t18x1 (s0 : List UInt8) (s1 : List UInt8) (i2 : Int) : Tree :=
  .nm (((List.length s0) : Nat) : Int) fun (r3 : Int) =>
  .nm (decide (i2 < r3)) fun (b4 : Bool) =>
  .ite b4 (.bind (byteAt s0 i2) fun (r5 : Int) =>
    .nm (r5 == (10 : Int)) fun (b6 : Bool) =>
    .ite b6 (.need (((List.length s1) + 2) ≤ maxStr) <|
      .nm (s1 ++ ([92, 110] : List UInt8)) fun (s7 : List UInt8) =>
      .nm (Go.IntKind.wrap .i64 (i2 + (1 : Int))) fun (r8 : Int) =>
      .jump 1 [(.str s0), (.str s7), (.int .i64 r8)])
      (.nm (r5 == (9 : Int)) fun (b9 : Bool) =>
      .ite b9 (.need (((List.length s1) + 2) ≤ maxStr) <|
        .nm (s1 ++ ([92, 116] : List UInt8)) fun (s10 : List UInt8) =>
        .nm (Go.IntKind.wrap .i64 (i2 + (1 : Int))) fun (r11 : Int) =>
        .jump 1 [(.str s0), (.str s10), (.int .i64 r11)])
        (.nm (r5 == (92 : Int)) fun (b12 : Bool) =>
        .ite b12 (.ite b12 (.need (((List.length s1) + 1) ≤ maxStr) <|
            .nm (s1 ++ ([92] : List UInt8)) fun (s13 : List UInt8) =>
            .nm (Go.IntKind.wrap .i64 (i2 + (1 : Int))) fun (r14 : Int) =>
            .need (inLoHi i2 r14 (List.length s0)) <|
            .need (((List.length s13) + (List.length (List.drop (Int.toNat i2) (List.take (Int.toNat r14) s0)))) ≤ maxStr) <|
            .nm (s13 ++ (List.drop (Int.toNat i2) (List.take (Int.toNat r14) s0))) fun (s15 : List UInt8) =>
            .nm (Go.IntKind.wrap .i64 (i2 + (1 : Int))) fun (r16 : Int) =>
            .jump 1 [(.str s0), (.str s15), (.int .i64 r16)])
            (.nm (Go.IntKind.wrap .i64 (i2 + (1 : Int))) fun (r17 : Int) =>
            .need (inLoHi i2 r17 (List.length s0)) <|
            .need (((List.length s1) + (List.length (List.drop (Int.toNat i2) (List.take (Int.toNat r17) s0)))) ≤ maxStr) <|
            .nm (s1 ++ (List.drop (Int.toNat i2) (List.take (Int.toNat r17) s0))) fun (s18 : List UInt8) =>
            .nm (Go.IntKind.wrap .i64 (i2 + (1 : Int))) fun (r19 : Int) =>
            .jump 1 [(.str s0), (.str s18), (.int .i64 r19)]))
          (.nm (r5 == (34 : Int)) fun (b20 : Bool) =>
          .ite b20 (.need (((List.length s1) + 1) ≤ maxStr) <|
            .nm (s1 ++ ([92] : List UInt8)) fun (s21 : List UInt8) =>
            .nm (Go.IntKind.wrap .i64 (i2 + (1 : Int))) fun (r22 : Int) =>
            .need (inLoHi i2 r22 (List.length s0)) <|
            .need (((List.length s21) + (List.length (List.drop (Int.toNat i2) (List.take (Int.toNat r22) s0)))) ≤ maxStr) <|
            .nm (s21 ++ (List.drop (Int.toNat i2) (List.take (Int.toNat r22) s0))) fun (s23 : List UInt8) =>
            .nm (Go.IntKind.wrap .i64 (i2 + (1 : Int))) fun (r24 : Int) =>
            .jump 1 [(.str s0), (.str s23), (.int .i64 r24)])
            (.nm (Go.IntKind.wrap .i64 (i2 + (1 : Int))) fun (r25 : Int) =>
            .need (inLoHi i2 r25 (List.length s0)) <|
            .need (((List.length s1) + (List.length (List.drop (Int.toNat i2) (List.take (Int.toNat r25) s0)))) ≤ maxStr) <|
            .nm (s1 ++ (List.drop (Int.toNat i2) (List.take (Int.toNat r25) s0))) fun (s26 : List UInt8) =>
            .nm (Go.IntKind.wrap .i64 (i2 + (1 : Int))) fun (r27 : Int) =>
            .jump 1 [(.str s0), (.str s26), (.int .i64 r27)])))))
    (.need (((List.length s1) + 1) ≤ maxStr) <|
    .nm (s1 ++ ([34] : List UInt8)) fun (s28 : List UInt8) =>
    .done ((.ret ((.str s28), .no)), ⟨[], ([] : List Nat)⟩))
set_option maxRecDepth 20000 in
theorem e18x1 (call : CallFn) (s0 : List UInt8) (s1 : List UInt8) (i2 : Int) : lay.tree call 18 d18 1 [(.str s0), (.str s1), (.int .i64 i2)] = t18x1 s0 s1 i2 := by kernel_rfl
theorem s18x0 (s0 : List UInt8) (g : List UInt8 → Tree) (els : Tree) : outT o18x0 ((.ret ((.str s0), .no)), ⟨[], ([] : List Nat)⟩) g els = .need (([] : List Nat) = ([] : List Nat)) (g s0) := rfl
/-! (*auklet/lex.reader).skip -/
noncomputable def t32x0 (s0 : List UInt8) (i1 : Int) (l2 : List AV) : Tree :=
  .need ([(List.length l2)] = [(List.length l2)]) <|
  .jump 1 [(.str s0), (.int .i64 i1), (.sl l2)]
set_option maxRecDepth 20000 in
theorem e32x0 (call : CallFn) (s0 : List UInt8) (i1 : Int) (l2 : List AV) : lay.tree call 32 d32 0 [(.str s0), (.int .i64 i1), (.sl l2)] = t32x0 s0 i1 l2 := by kernel_rfl
noncomputable def t32x1 (s0 : List UInt8) (i1 : Int) (l2 : List AV) : Tree :=
  .nm (((List.length s0) : Nat) : Int) fun (r3 : Int) =>
  .nm (decide (i1 < r3)) fun (b4 : Bool) =>
  .ite b4 (.bind (byteAt s0 i1) fun (r5 : Int) =>
    .nm (r5 == (32 : Int)) fun (b6 : Bool) =>
    .ite b6 (.nm (Go.IntKind.wrap .i64 (i1 + (1 : Int))) fun (r7 : Int) =>
      .need ([(List.length l2)] = [(List.length l2)]) <|
      .jump 1 [(.str s0), (.int .i64 r7), (.sl l2)])
      (.nm (r5 == (9 : Int)) fun (b8 : Bool) =>
      .ite b8 (.nm (Go.IntKind.wrap .i64 (i1 + (1 : Int))) fun (r9 : Int) =>
        .need ([(List.length l2)] = [(List.length l2)]) <|
        .jump 1 [(.str s0), (.int .i64 r9), (.sl l2)])
        (.need (inLo i1 (List.length s0)) <|
        .call 55 0 [(.str (List.drop (Int.toNat i1) (List.take (List.length s0) s0))), (.str ([92, 10] : List UInt8))] fun o =>
          outT o55x0 o (fun (b10 : Bool) =>
          .ite b10 (.nm (Go.IntKind.wrap .i64 (i1 + (2 : Int))) fun (r11 : Int) =>
            .need ([(List.length l2)] = [(List.length l2)]) <|
            .jump 1 [(.str s0), (.int .i64 r11), (.sl l2)])
            (.nm (r5 == (35 : Int)) fun (b12 : Bool) =>
            .ite b12 (.need (inLo i1 (List.length s0)) <|
              .call 38 2 [(.str (List.drop (Int.toNat i1) (List.take (List.length s0) s0)))] fun o =>
                outT o38x0 o (fun (s13 : List UInt8) =>
                .nm (((List.length s13) : Nat) : Int) fun (r14 : Int) =>
                .nm (Go.IntKind.wrap .i64 (i1 + r14)) fun (r15 : Int) =>
                .need ((((.int .i64 i1), .no) : SV) = ((.int .i64 i1), .no)) <|
                .need ([(List.length l2)] = [(List.length l2)]) <|
                .jump 1 [(.str s0), (.int .i64 r15), (.sl l2)])
                 (.fail))
              (.done ((.ret ((.tup []), (.agg []))), ⟨[[((.str s0), .no), ((.int .i64 i1), .no), ((.sl l2), (.tok 0))]], [(List.length l2)]⟩))))
           (.fail))))
    (.done ((.ret ((.tup []), (.agg []))), ⟨[[((.str s0), .no), ((.int .i64 i1), .no), ((.sl l2), (.tok 0))]], [(List.length l2)]⟩))
set_option maxRecDepth 20000 in
theorem e32x1 (call : CallFn) (s0 : List UInt8) (i1 : Int) (l2 : List AV) : lay.tree call 32 d32 1 [(.str s0), (.int .i64 i1), (.sl l2)] = t32x1 s0 i1 l2 := by kernel_rfl
theorem s32x0 (s0 : List UInt8) (i1 : Int) (l2 : List AV) (g : List UInt8 → Int → List AV → Tree) (els : Tree) : outT o32x0 ((.ret ((.tup []), (.agg []))), ⟨[[((.str s0), .no), ((.int .i64 i1), .no), ((.sl l2), (.tok 0))]], [(List.length l2)]⟩) g els = .need ([(List.length l2)] = [(List.length l2)]) (g s0 i1 l2) := rfl
/-! (*auklet/lex.reader).next -/
noncomputable def t33x0 (s0 : List UInt8) (i1 : Int) (l2 : List AV) : Tree :=
  .need (inLo i1 (List.length s0)) <|
  .bind (byteAt (List.drop (Int.toNat i1) (List.take (List.length s0) s0)) (0 : Int)) fun (r3 : Int) =>
  .nm (r3 == (10 : Int)) fun (b4 : Bool) =>
  .ite b4 (.need ((AV.lows 0 l2) = Bool.true) <|
    .need ([(List.length l2)] = [(List.length l2)]) <|
    .call 34 0 [(.int .i64 (1 : Int)), (.str ([10] : List UInt8)), (.int .i64 (1 : Int)), (.str s0), (.int .i64 i1), (.sl l2)] fun o =>
      outT o34x0 o (fun (i8 : Int) (i9 : Int) (s10 : List UInt8) (i11 : Int) (l12 : List AV) =>
      .need ((AV.lows 0 l12) = Bool.true) <|
      .done ((.panic (.iface 45 (.agg [(.int .i64 i8), (.int .i64 i9)]))), ⟨[[((.str s10), .no), ((.int .i64 i11), .no), ((.sl l12), (.tok 0))]], [(List.length l12)]⟩))
       (outT o34x1 o (fun (s5 : List UInt8) (i6 : Int) (l7 : List AV) =>
      .need ((AV.lows 0 l7) = Bool.true) <|
      .done ((.ret ((.tup []), (.agg []))), ⟨[[((.str s5), .no), ((.int .i64 i6), .no), ((.sl l7), (.tok 0))]], [(List.length l7)]⟩))
       (.fail)))
    (.call 37 0 [(.int .u8 r3)] fun o =>
      outT o37x0 o (fun (b13 : Bool) =>
      .ite b13 (.need ((AV.lows 0 l2) = Bool.true) <|
        .need ([(List.length l2)] = [(List.length l2)]) <|
        .call 57 0 [(.str s0), (.int .i64 i1), (.sl l2)] fun o =>
          outT o57x0 o (fun (i17 : Int) (i18 : Int) (s19 : List UInt8) (i20 : Int) (l21 : List AV) =>
          .need ((AV.lows 0 l21) = Bool.true) <|
          .done ((.panic (.iface 45 (.agg [(.int .i64 i17), (.int .i64 i18)]))), ⟨[[((.str s19), .no), ((.int .i64 i20), .no), ((.sl l21), (.tok 0))]], [(List.length l21)]⟩))
           (outT o57x1 o (fun (s14 : List UInt8) (i15 : Int) (l16 : List AV) =>
          .need ((AV.lows 0 l16) = Bool.true) <|
          .done ((.ret ((.tup []), (.agg []))), ⟨[[((.str s14), .no), ((.int .i64 i15), .no), ((.sl l16), (.tok 0))]], [(List.length l16)]⟩))
           (.fail)))
        (.call 58 0 [(.int .u8 r3)] fun o =>
          outT o58x0 o (fun (b22 : Bool) =>
          .ite b22 (.call 59 0 [(.str (List.drop (Int.toNat i1) (List.take (List.length s0) s0)))] fun o =>
              outT o59x0 o (fun (s23 : List UInt8) =>
              .nm (((List.length s23) : Nat) : Int) fun (r24 : Int) =>
              .need ((AV.lows 0 l2) = Bool.true) <|
              .need ([(List.length l2)] = [(List.length l2)]) <|
              .call 34 0 [(.int .i64 (2 : Int)), (.str s23), (.int .i64 r24), (.str s0), (.int .i64 i1), (.sl l2)] fun o =>
                outT o34x0 o (fun (i28 : Int) (i29 : Int) (s30 : List UInt8) (i31 : Int) (l32 : List AV) =>
                .need ((AV.lows 0 l32) = Bool.true) <|
                .done ((.panic (.iface 45 (.agg [(.int .i64 i28), (.int .i64 i29)]))), ⟨[[((.str s30), .no), ((.int .i64 i31), .no), ((.sl l32), (.tok 0))]], [(List.length l32)]⟩))
                 (outT o34x1 o (fun (s25 : List UInt8) (i26 : Int) (l27 : List AV) =>
                .need ((AV.lows 0 l27) = Bool.true) <|
                .done ((.ret ((.tup []), (.agg []))), ⟨[[((.str s25), .no), ((.int .i64 i26), .no), ((.sl l27), (.tok 0))]], [(List.length l27)]⟩))
                 (.fail)))
               (.fail))
            (.nm (r3 == (46 : Int)) fun (b33 : Bool) =>
            .ite b33 (.nm (((List.length (List.drop (Int.toNat i1) (List.take (List.length s0) s0))) : Nat) : Int) fun (r34 : Int) =>
              .nm (decide (r34 > (1 : Int))) fun (b35 : Bool) =>
              .ite b35 (.bind (byteAt (List.drop (Int.toNat i1) (List.take (List.length s0) s0)) (1 : Int)) fun (r36 : Int) =>
                .call 58 0 [(.int .u8 r36)] fun o =>
                  outT o58x0 o (fun (b37 : Bool) =>
                  .ite b37 (.call 59 0 [(.str (List.drop (Int.toNat i1) (List.take (List.length s0) s0)))] fun o =>
                      outT o59x0 o (fun (s38 : List UInt8) =>
                      .nm (((List.length s38) : Nat) : Int) fun (r39 : Int) =>
                      .need ((AV.lows 0 l2) = Bool.true) <|
                      .need ([(List.length l2)] = [(List.length l2)]) <|
                      .call 34 0 [(.int .i64 (2 : Int)), (.str s38), (.int .i64 r39), (.str s0), (.int .i64 i1), (.sl l2)] fun o =>
                        outT o34x0 o (fun (i43 : Int) (i44 : Int) (s45 : List UInt8) (i46 : Int) (l47 : List AV) =>
                        .need ((AV.lows 0 l47) = Bool.true) <|
                        .done ((.panic (.iface 45 (.agg [(.int .i64 i43), (.int .i64 i44)]))), ⟨[[((.str s45), .no), ((.int .i64 i46), .no), ((.sl l47), (.tok 0))]], [(List.length l47)]⟩))
                         (outT o34x1 o (fun (s40 : List UInt8) (i41 : Int) (l42 : List AV) =>
                        .need ((AV.lows 0 l42) = Bool.true) <|
                        .done ((.ret ((.tup []), (.agg []))), ⟨[[((.str s40), .no), ((.int .i64 i41), .no), ((.sl l42), (.tok 0))]], [(List.length l42)]⟩))
                         (.fail)))
                       (.fail))
                    (.nm (r3 == (34 : Int)) fun (b48 : Bool) =>
                    .ite b48 (.need ((AV.lows 0 l2) = Bool.true) <|
                      .need ([(List.length l2)] = [(List.length l2)]) <|
                      .call 60 0 [(.str s0), (.int .i64 i1), (.sl l2)] fun o =>
                        outT o60x0 o (fun (i52 : Int) (i53 : Int) (s54 : List UInt8) (i55 : Int) (l56 : List AV) =>
                        .need ((AV.lows 0 l56) = Bool.true) <|
                        .done ((.panic (.iface 45 (.agg [(.int .i64 i52), (.int .i64 i53)]))), ⟨[[((.str s54), .no), ((.int .i64 i55), .no), ((.sl l56), (.tok 0))]], [(List.length l56)]⟩))
                         (outT o60x1 o (fun (s49 : List UInt8) (i50 : Int) (l51 : List AV) =>
                        .need ((AV.lows 0 l51) = Bool.true) <|
                        .done ((.ret ((.tup []), (.agg []))), ⟨[[((.str s49), .no), ((.int .i64 i50), .no), ((.sl l51), (.tok 0))]], [(List.length l51)]⟩))
                         (.fail)))
                      (.nm (r3 == (47 : Int)) fun (b57 : Bool) =>
                      .ite b57 (.need ((AV.lows 0 l2) = Bool.true) <|
                        .need ([(List.length l2)] = [(List.length l2)]) <|
                        .call 61 0 [(.str s0), (.int .i64 i1), (.sl l2)] fun o =>
                          outT o61x0 o (fun (b58 : Bool) (s59 : List UInt8) (i60 : Int) (l61 : List AV) =>
                          .need ((AV.lows 0 l61) = Bool.true) <|
                          .ite b58 (.need ((AV.lows 0 l61) = Bool.true) <|
                            .need ([(List.length l61)] = [(List.length l61)]) <|
                            .call 62 0 [(.str s59), (.int .i64 i60), (.sl l61)] fun o =>
                              outT o62x0 o (fun (i65 : Int) (i66 : Int) (s67 : List UInt8) (i68 : Int) (l69 : List AV) =>
                              .need ((AV.lows 0 l69) = Bool.true) <|
                              .done ((.panic (.iface 45 (.agg [(.int .i64 i65), (.int .i64 i66)]))), ⟨[[((.str s67), .no), ((.int .i64 i68), .no), ((.sl l69), (.tok 0))]], [(List.length l69)]⟩))
                               (outT o62x1 o (fun (s62 : List UInt8) (i63 : Int) (l64 : List AV) =>
                              .need ((AV.lows 0 l64) = Bool.true) <|
                              .done ((.ret ((.tup []), (.agg []))), ⟨[[((.str s62), .no), ((.int .i64 i63), .no), ((.sl l64), (.tok 0))]], [(List.length l64)]⟩))
                               (.fail)))
                            (.need ((AV.lows 0 l61) = Bool.true) <|
                            .need ([(List.length l61)] = [(List.length l61)]) <|
                            .call 63 0 [(.str s59), (.int .i64 i60), (.sl l61)] fun o =>
                              outT o63x0 o (fun (s75 : List UInt8) (i76 : Int) (l77 : List AV) =>
                              .need ((AV.lows 0 l77) = Bool.true) <|
                              .done ((.ret ((.tup []), (.agg []))), ⟨[[((.str s75), .no), ((.int .i64 i76), .no), ((.sl l77), (.tok 0))]], [(List.length l77)]⟩))
                               (outT o63x1 o (fun (i70 : Int) (i71 : Int) (s72 : List UInt8) (i73 : Int) (l74 : List AV) =>
                              .need ((AV.lows 0 l74) = Bool.true) <|
                              .done ((.panic (.iface 45 (.agg [(.int .i64 i70), (.int .i64 i71)]))), ⟨[[((.str s72), .no), ((.int .i64 i73), .no), ((.sl l74), (.tok 0))]], [(List.length l74)]⟩))
                               (.fail))))
                           (.fail))
                        (.need ((AV.lows 0 l2) = Bool.true) <|
                        .need ([(List.length l2)] = [(List.length l2)]) <|
                        .call 63 0 [(.str s0), (.int .i64 i1), (.sl l2)] fun o =>
                          outT o63x0 o (fun (s83 : List UInt8) (i84 : Int) (l85 : List AV) =>
                          .need ((AV.lows 0 l85) = Bool.true) <|
                          .done ((.ret ((.tup []), (.agg []))), ⟨[[((.str s83), .no), ((.int .i64 i84), .no), ((.sl l85), (.tok 0))]], [(List.length l85)]⟩))
                           (outT o63x1 o (fun (i78 : Int) (i79 : Int) (s80 : List UInt8) (i81 : Int) (l82 : List AV) =>
                          .need ((AV.lows 0 l82) = Bool.true) <|
                          .done ((.panic (.iface 45 (.agg [(.int .i64 i78), (.int .i64 i79)]))), ⟨[[((.str s80), .no), ((.int .i64 i81), .no), ((.sl l82), (.tok 0))]], [(List.length l82)]⟩))
                           (.fail))))))
                   (.fail))
                (.nm (r3 == (34 : Int)) fun (b86 : Bool) =>
                .ite b86 (.need ((AV.lows 0 l2) = Bool.true) <|
                  .need ([(List.length l2)] = [(List.length l2)]) <|
                  .call 60 0 [(.str s0), (.int .i64 i1), (.sl l2)] fun o =>
                    outT o60x0 o (fun (i90 : Int) (i91 : Int) (s92 : List UInt8) (i93 : Int) (l94 : List AV) =>
                    .need ((AV.lows 0 l94) = Bool.true) <|
                    .done ((.panic (.iface 45 (.agg [(.int .i64 i90), (.int .i64 i91)]))), ⟨[[((.str s92), .no), ((.int .i64 i93), .no), ((.sl l94), (.tok 0))]], [(List.length l94)]⟩))
                     (outT o60x1 o (fun (s87 : List UInt8) (i88 : Int) (l89 : List AV) =>
                    .need ((AV.lows 0 l89) = Bool.true) <|
                    .done ((.ret ((.tup []), (.agg []))), ⟨[[((.str s87), .no), ((.int .i64 i88), .no), ((.sl l89), (.tok 0))]], [(List.length l89)]⟩))
                     (.fail)))
                  (.nm (r3 == (47 : Int)) fun (b95 : Bool) =>
                  .ite b95 (.need ((AV.lows 0 l2) = Bool.true) <|
                    .need ([(List.length l2)] = [(List.length l2)]) <|
                    .call 61 0 [(.str s0), (.int .i64 i1), (.sl l2)] fun o =>
                      outT o61x0 o (fun (b96 : Bool) (s97 : List UInt8) (i98 : Int) (l99 : List AV) =>
                      .need ((AV.lows 0 l99) = Bool.true) <|
                      .ite b96 (.need ((AV.lows 0 l99) = Bool.true) <|
                        .need ([(List.length l99)] = [(List.length l99)]) <|
                        .call 62 0 [(.str s97), (.int .i64 i98), (.sl l99)] fun o =>
                          outT o62x0 o (fun (i103 : Int) (i104 : Int) (s105 : List UInt8) (i106 : Int) (l107 : List AV) =>
                          .need ((AV.lows 0 l107) = Bool.true) <|
                          .done ((.panic (.iface 45 (.agg [(.int .i64 i103), (.int .i64 i104)]))), ⟨[[((.str s105), .no), ((.int .i64 i106), .no), ((.sl l107), (.tok 0))]], [(List.length l107)]⟩))
                           (outT o62x1 o (fun (s100 : List UInt8) (i101 : Int) (l102 : List AV) =>
                          .need ((AV.lows 0 l102) = Bool.true) <|
                          .done ((.ret ((.tup []), (.agg []))), ⟨[[((.str s100), .no), ((.int .i64 i101), .no), ((.sl l102), (.tok 0))]], [(List.length l102)]⟩))
                           (.fail)))
                        (.need ((AV.lows 0 l99) = Bool.true) <|
                        .need ([(List.length l99)] = [(List.length l99)]) <|
                        .call 63 0 [(.str s97), (.int .i64 i98), (.sl l99)] fun o =>
                          outT o63x0 o (fun (s113 : List UInt8) (i114 : Int) (l115 : List AV) =>
                          .need ((AV.lows 0 l115) = Bool.true) <|
                          .done ((.ret ((.tup []), (.agg []))), ⟨[[((.str s113), .no), ((.int .i64 i114), .no), ((.sl l115), (.tok 0))]], [(List.length l115)]⟩))
                           (outT o63x1 o (fun (i108 : Int) (i109 : Int) (s110 : List UInt8) (i111 : Int) (l112 : List AV) =>
                          .need ((AV.lows 0 l112) = Bool.true) <|
                          .done ((.panic (.iface 45 (.agg [(.int .i64 i108), (.int .i64 i109)]))), ⟨[[((.str s110), .no), ((.int .i64 i111), .no), ((.sl l112), (.tok 0))]], [(List.length l112)]⟩))
                           (.fail))))
                       (.fail))
                    (.need ((AV.lows 0 l2) = Bool.true) <|
                    .need ([(List.length l2)] = [(List.length l2)]) <|
                    .call 63 0 [(.str s0), (.int .i64 i1), (.sl l2)] fun o =>
                      outT o63x0 o (fun (s121 : List UInt8) (i122 : Int) (l123 : List AV) =>
                      .need ((AV.lows 0 l123) = Bool.true) <|
                      .done ((.ret ((.tup []), (.agg []))), ⟨[[((.str s121), .no), ((.int .i64 i122), .no), ((.sl l123), (.tok 0))]], [(List.length l123)]⟩))
                       (outT o63x1 o (fun (i116 : Int) (i117 : Int) (s118 : List UInt8) (i119 : Int) (l120 : List AV) =>
                      .need ((AV.lows 0 l120) = Bool.true) <|
                      .done ((.panic (.iface 45 (.agg [(.int .i64 i116), (.int .i64 i117)]))), ⟨[[((.str s118), .no), ((.int .i64 i119), .no), ((.sl l120), (.tok 0))]], [(List.length l120)]⟩))
                       (.fail))))))
              (.nm (r3 == (34 : Int)) fun (b124 : Bool) =>
              .ite b124 (.need ((AV.lows 0 l2) = Bool.true) <|
                .need ([(List.length l2)] = [(List.length l2)]) <|
                .call 60 0 [(.str s0), (.int .i64 i1), (.sl l2)] fun o =>
                  outT o60x0 o (fun (i128 : Int) (i129 : Int) (s130 : List UInt8) (i131 : Int) (l132 : List AV) =>
                  .need ((AV.lows 0 l132) = Bool.true) <|
                  .done ((.panic (.iface 45 (.agg [(.int .i64 i128), (.int .i64 i129)]))), ⟨[[((.str s130), .no), ((.int .i64 i131), .no), ((.sl l132), (.tok 0))]], [(List.length l132)]⟩))
                   (outT o60x1 o (fun (s125 : List UInt8) (i126 : Int) (l127 : List AV) =>
                  .need ((AV.lows 0 l127) = Bool.true) <|
                  .done ((.ret ((.tup []), (.agg []))), ⟨[[((.str s125), .no), ((.int .i64 i126), .no), ((.sl l127), (.tok 0))]], [(List.length l127)]⟩))
                   (.fail)))
                (.nm (r3 == (47 : Int)) fun (b133 : Bool) =>
                .ite b133 (.need ((AV.lows 0 l2) = Bool.true) <|
                  .need ([(List.length l2)] = [(List.length l2)]) <|
                  .call 61 0 [(.str s0), (.int .i64 i1), (.sl l2)] fun o =>
                    outT o61x0 o (fun (b134 : Bool) (s135 : List UInt8) (i136 : Int) (l137 : List AV) =>
                    .need ((AV.lows 0 l137) = Bool.true) <|
                    .ite b134 (.need ((AV.lows 0 l137) = Bool.true) <|
                      .need ([(List.length l137)] = [(List.length l137)]) <|
                      .call 62 0 [(.str s135), (.int .i64 i136), (.sl l137)] fun o =>
                        outT o62x0 o (fun (i141 : Int) (i142 : Int) (s143 : List UInt8) (i144 : Int) (l145 : List AV) =>
                        .need ((AV.lows 0 l145) = Bool.true) <|
                        .done ((.panic (.iface 45 (.agg [(.int .i64 i141), (.int .i64 i142)]))), ⟨[[((.str s143), .no), ((.int .i64 i144), .no), ((.sl l145), (.tok 0))]], [(List.length l145)]⟩))
                         (outT o62x1 o (fun (s138 : List UInt8) (i139 : Int) (l140 : List AV) =>
                        .need ((AV.lows 0 l140) = Bool.true) <|
                        .done ((.ret ((.tup []), (.agg []))), ⟨[[((.str s138), .no), ((.int .i64 i139), .no), ((.sl l140), (.tok 0))]], [(List.length l140)]⟩))
                         (.fail)))
                      (.need ((AV.lows 0 l137) = Bool.true) <|
                      .need ([(List.length l137)] = [(List.length l137)]) <|
                      .call 63 0 [(.str s135), (.int .i64 i136), (.sl l137)] fun o =>
                        outT o63x0 o (fun (s151 : List UInt8) (i152 : Int) (l153 : List AV) =>
                        .need ((AV.lows 0 l153) = Bool.true) <|
                        .done ((.ret ((.tup []), (.agg []))), ⟨[[((.str s151), .no), ((.int .i64 i152), .no), ((.sl l153), (.tok 0))]], [(List.length l153)]⟩))
                         (outT o63x1 o (fun (i146 : Int) (i147 : Int) (s148 : List UInt8) (i149 : Int) (l150 : List AV) =>
                        .need ((AV.lows 0 l150) = Bool.true) <|
                        .done ((.panic (.iface 45 (.agg [(.int .i64 i146), (.int .i64 i147)]))), ⟨[[((.str s148), .no), ((.int .i64 i149), .no), ((.sl l150), (.tok 0))]], [(List.length l150)]⟩))
                         (.fail))))
                     (.fail))
                  (.need ((AV.lows 0 l2) = Bool.true) <|
                  .need ([(List.length l2)] = [(List.length l2)]) <|
                  .call 63 0 [(.str s0), (.int .i64 i1), (.sl l2)] fun o =>
                    outT o63x0 o (fun (s159 : List UInt8) (i160 : Int) (l161 : List AV) =>
                    .need ((AV.lows 0 l161) = Bool.true) <|
                    .done ((.ret ((.tup []), (.agg []))), ⟨[[((.str s159), .no), ((.int .i64 i160), .no), ((.sl l161), (.tok 0))]], [(List.length l161)]⟩))
                     (outT o63x1 o (fun (i154 : Int) (i155 : Int) (s156 : List UInt8) (i157 : Int) (l158 : List AV) =>
                    .need ((AV.lows 0 l158) = Bool.true) <|
                    .done ((.panic (.iface 45 (.agg [(.int .i64 i154), (.int .i64 i155)]))), ⟨[[((.str s156), .no), ((.int .i64 i157), .no), ((.sl l158), (.tok 0))]], [(List.length l158)]⟩))
                     (.fail)))))))
           (.fail)))
       (.fail))
set_option maxRecDepth 20000 in
theorem e33x0 (call : CallFn) (s0 : List UInt8) (i1 : Int) (l2 : List AV) : lay.tree call 33 d33 0 [(.str s0), (.int .i64 i1), (.sl l2)] = t33x0 s0 i1 l2 := by kernel_rfl
theorem s33x0 (s0 : List UInt8) (i1 : Int) (l2 : List AV) (g : List UInt8 → Int → List AV → Tree) (els : Tree) : outT o33x0 ((.ret ((.tup []), (.agg []))), ⟨[[((.str s0), .no), ((.int .i64 i1), .no), ((.sl l2), (.tok 0))]], [(List.length l2)]⟩) g els = .need ([(List.length l2)] = [(List.length l2)]) (g s0 i1 l2) := rfl
theorem s33x1 (i0 : Int) (i1 : Int) (s2 : List UInt8) (i3 : Int) (l4 : List AV) (g : Int → Int → List UInt8 → Int → List AV → Tree) (els : Tree) : outT o33x1 ((.panic (.iface 45 (.agg [(.int .i64 i0), (.int .i64 i1)]))), ⟨[[((.str s2), .no), ((.int .i64 i3), .no), ((.sl l4), (.tok 0))]], [(List.length l4)]⟩) g els = .need ([(List.length l4)] = [(List.length l4)]) (g i0 i1 s2 i3 l4) := rfl
theorem n33x0x1 (i0 : Int) (i1 : Int) (s2 : List UInt8) (i3 : Int) (l4 : List AV) (g : List UInt8 → Int → List AV → Tree) (els : Tree) : outT o33x0 ((.panic (.iface 45 (.agg [(.int .i64 i0), (.int .i64 i1)]))), ⟨[[((.str s2), .no), ((.int .i64 i3), .no), ((.sl l4), (.tok 0))]], [(List.length l4)]⟩) g els = els := rfl
/-! (*auklet/lex.reader).put -/
noncomputable def t34x0 (i0 : Int) (s1 : List UInt8) (i2 : Int) (s3 : List UInt8) (i4 : Int) (l5 : List AV) : Tree :=
  .nm (((List.length l5) : Nat) : Int) fun (r6 : Int) =>
  .nm (r6 == (3000 : Int)) fun (b7 : Bool) =>
  .ite b7 (.need ((AV.lows 0 l5) = Bool.true) <|
    .need ([(List.length l5)] = [(List.length l5)]) <|
    .call 64 0 [(.int .i64 (2 : Int)), (.str s3), (.int .i64 i4), (.sl l5)] fun o =>
      outT o64x0 o (fun (i8 : Int) (i9 : Int) (s10 : List UInt8) (i11 : Int) (l12 : List AV) =>
      .need ((AV.lows 0 l12) = Bool.true) <|
      .done ((.panic (.iface 45 (.agg [(.int .i64 i8), (.int .i64 i9)]))), ⟨[[((.str s10), .no), ((.int .i64 i11), .no), ((.sl l12), (.tok 0))]], [(List.length l12)]⟩))
       (.fail))
    (.need ((szOk l5 3) = Bool.true) <|
    .need ((szOk [(.agg [(.int .i64 i0), (.str s1), (.int .i64 i4)])] 3) = Bool.true) <|
    .need (((List.length l5) + 1) ≤ Ab.maxLen) <|
    .need ((Option.some (List.length l5)) = (Option.some (List.length l5))) <|
    .need ((AV.lows 0 (l5 ++ [(.agg [(.int .i64 i0), (.str s1), (.int .i64 i4)])])) = Bool.true) <|
    .nm (Go.IntKind.wrap .i64 (i4 + i2)) fun (r13 : Int) =>
    .done ((.ret ((.tup []), (.agg []))), ⟨[[((.str s3), .no), ((.int .i64 r13), .no), ((.sl (l5 ++ [(.agg [(.int .i64 i0), (.str s1), (.int .i64 i4)])])), (.tok 0))]], [(List.length (l5 ++ [(.agg [(.int .i64 i0), (.str s1), (.int .i64 i4)])]))]⟩))
set_option maxRecDepth 20000 in
theorem e34x0 (call : CallFn) (i0 : Int) (s1 : List UInt8) (i2 : Int) (s3 : List UInt8) (i4 : Int) (l5 : List AV) : lay.tree call 34 d34 0 [(.int .i64 i0), (.str s1), (.int .i64 i2), (.str s3), (.int .i64 i4), (.sl l5)] = t34x0 i0 s1 i2 s3 i4 l5 := by kernel_rfl
theorem s34x0 (i0 : Int) (i1 : Int) (s2 : List UInt8) (i3 : Int) (l4 : List AV) (g : Int → Int → List UInt8 → Int → List AV → Tree) (els : Tree) : outT o34x0 ((.panic (.iface 45 (.agg [(.int .i64 i0), (.int .i64 i1)]))), ⟨[[((.str s2), .no), ((.int .i64 i3), .no), ((.sl l4), (.tok 0))]], [(List.length l4)]⟩) g els = .need ([(List.length l4)] = [(List.length l4)]) (g i0 i1 s2 i3 l4) := rfl
theorem s34x1 (s0 : List UInt8) (i1 : Int) (l2 : List AV) (g : List UInt8 → Int → List AV → Tree) (els : Tree) : outT o34x1 ((.ret ((.tup []), (.agg []))), ⟨[[((.str s0), .no), ((.int .i64 i1), .no), ((.sl l2), (.tok 0))]], [(List.length l2)]⟩) g els = .need ([(List.length l2)] = [(List.length l2)]) (g s0 i1 l2) := rfl
theorem n34x0x1 (s0 : List UInt8) (i1 : Int) (l2 : List AV) (g : Int → Int → List UInt8 → Int → List AV → Tree) (els : Tree) : outT o34x0 ((.ret ((.tup []), (.agg []))), ⟨[[((.str s0), .no), ((.int .i64 i1), .no), ((.sl l2), (.tok 0))]], [(List.length l2)]⟩) g els = els := rfl
/-! auklet/lex.among -/
noncomputable def t35x0 (s0 : List UInt8) (s1 : List UInt8) : Tree :=
  .nm (Bool.not (s1 == ([] : List UInt8))) fun (b2 : Bool) =>
  .ite b2 (.need ((1 + (List.length s1)) ≤ maxStr) <|
    .nm (32 :: s1) fun (s3 : List UInt8) =>
    .need (((List.length s3) + 1) ≤ maxStr) <|
    .nm (s3 ++ ([32] : List UInt8)) fun (s4 : List UInt8) =>
    .need ((List.length s0) < 4294967281) <|
    .nm (Go.Lib.contains s0 s4) fun (b5 : Bool) =>
    .done ((.ret ((.bool b5), .no)), ⟨[], ([] : List Nat)⟩))
    (.done ((.ret ((.bool Bool.false), .no)), ⟨[], ([] : List Nat)⟩))
set_option maxRecDepth 20000 in
theorem e35x0 (call : CallFn) (s0 : List UInt8) (s1 : List UInt8) : lay.tree call 35 d35 0 [(.str s0), (.str s1)] = t35x0 s0 s1 := by kernel_rfl
theorem s35x0 (b0 : Bool) (g : Bool → Tree) (els : Tree) : outT o35x0 ((.ret ((.bool b0), .no)), ⟨[], ([] : List Nat)⟩) g els = .need (([] : List Nat) = ([] : List Nat)) (g b0) := rfl
/-! auklet/lex.letter -/
noncomputable def t37x0 (i0 : Int) : Tree :=
  .nm (decide (i0 ≥ (65 : Int))) fun (b1 : Bool) =>
  .ite b1 (.nm (decide (i0 ≤ (90 : Int))) fun (b2 : Bool) =>
    .ite b2 (.done ((.ret ((.bool Bool.true), .no)), ⟨[], ([] : List Nat)⟩))
      (.nm (decide (i0 ≥ (97 : Int))) fun (b3 : Bool) =>
      .ite b3 (.nm (decide (i0 ≤ (122 : Int))) fun (b4 : Bool) =>
        .ite b4 (.done ((.ret ((.bool Bool.true), .no)), ⟨[], ([] : List Nat)⟩))
          (.nm (i0 == (95 : Int)) fun (b5 : Bool) =>
          .done ((.ret ((.bool b5), .no)), ⟨[], ([] : List Nat)⟩)))
        (.nm (i0 == (95 : Int)) fun (b6 : Bool) =>
        .done ((.ret ((.bool b6), .no)), ⟨[], ([] : List Nat)⟩))))
    (.nm (decide (i0 ≥ (97 : Int))) fun (b7 : Bool) =>
    .ite b7 (.nm (decide (i0 ≤ (122 : Int))) fun (b8 : Bool) =>
      .ite b8 (.done ((.ret ((.bool Bool.true), .no)), ⟨[], ([] : List Nat)⟩))
        (.nm (i0 == (95 : Int)) fun (b9 : Bool) =>
        .done ((.ret ((.bool b9), .no)), ⟨[], ([] : List Nat)⟩)))
      (.nm (i0 == (95 : Int)) fun (b10 : Bool) =>
      .done ((.ret ((.bool b10), .no)), ⟨[], ([] : List Nat)⟩)))
set_option maxRecDepth 20000 in
theorem e37x0 (call : CallFn) (i0 : Int) : lay.tree call 37 d37 0 [(.int .u8 i0)] = t37x0 i0 := by kernel_rfl
theorem s37x0 (b0 : Bool) (g : Bool → Tree) (els : Tree) : outT o37x0 ((.ret ((.bool b0), .no)), ⟨[], ([] : List Nat)⟩) g els = .need (([] : List Nat) = ([] : List Nat)) (g b0) := rfl
/-! auklet/lex.run -/
noncomputable def t38x0 (s0 : List UInt8) : Tree :=
  .jump 3 [(.str s0), (.int .i64 (0 : Int))]
set_option maxRecDepth 20000 in
theorem e38x0 (call : CallFn) (s0 : List UInt8) : lay.tree call 38 d38 0 [(.str s0)] = t38x0 s0 := by kernel_rfl
noncomputable def t38x1 (s0 : List UInt8) : Tree :=
  .jump 4 [(.str s0), (.int .i64 (0 : Int))]
set_option maxRecDepth 20000 in
theorem e38x1 (call : CallFn) (s0 : List UInt8) : lay.tree call 38 d38 1 [(.str s0)] = t38x1 s0 := by kernel_rfl
noncomputable def t38x2 (s0 : List UInt8) : Tree :=
  .jump 5 [(.str s0), (.int .i64 (0 : Int))]
set_option maxRecDepth 20000 in
theorem e38x2 (call : CallFn) (s0 : List UInt8) : lay.tree call 38 d38 2 [(.str s0)] = t38x2 s0 := by kernel_rfl
noncomputable def t38x3 (s0 : List UInt8) (i1 : Int) : Tree :=
  .nm (((List.length s0) : Nat) : Int) fun (r2 : Int) =>
  .nm (decide (i1 < r2)) fun (b3 : Bool) =>
  .ite b3 (.bind (byteAt s0 i1) fun (r4 : Int) =>
    .call 39 0 [(.int .u8 r4)] fun o =>
      outT o39x0 o (fun (b5 : Bool) =>
      .ite b5 (.nm (Go.IntKind.wrap .i64 (i1 + (1 : Int))) fun (r6 : Int) =>
        .jump 3 [(.str s0), (.int .i64 r6)])
        (.need (inLo i1 (List.length s0)) <|
        .done ((.ret ((.str (List.drop 0 (List.take (Int.toNat i1) s0))), .no)), ⟨[], ([] : List Nat)⟩)))
       (.fail))
    (.need (inLo i1 (List.length s0)) <|
    .done ((.ret ((.str (List.drop 0 (List.take (Int.toNat i1) s0))), .no)), ⟨[], ([] : List Nat)⟩))
set_option maxRecDepth 20000 in
theorem e38x3 (call : CallFn) (s0 : List UInt8) (i1 : Int) : lay.tree call 38 d38 3 [(.str s0), (.int .i64 i1)] = t38x3 s0 i1 := by kernel_rfl
noncomputable def t38x4 (s0 : List UInt8) (i1 : Int) : Tree :=
  .nm (((List.length s0) : Nat) : Int) fun (r2 : Int) =>
  .nm (decide (i1 < r2)) fun (b3 : Bool) =>
  .ite b3 (.bind (byteAt s0 i1) fun (r4 : Int) =>
    .call 58 0 [(.int .u8 r4)] fun o =>
      outT o58x0 o (fun (b5 : Bool) =>
      .ite b5 (.nm (Go.IntKind.wrap .i64 (i1 + (1 : Int))) fun (r6 : Int) =>
        .jump 4 [(.str s0), (.int .i64 r6)])
        (.need (inLo i1 (List.length s0)) <|
        .done ((.ret ((.str (List.drop 0 (List.take (Int.toNat i1) s0))), .no)), ⟨[], ([] : List Nat)⟩)))
       (.fail))
    (.need (inLo i1 (List.length s0)) <|
    .done ((.ret ((.str (List.drop 0 (List.take (Int.toNat i1) s0))), .no)), ⟨[], ([] : List Nat)⟩))
set_option maxRecDepth 20000 in
theorem e38x4 (call : CallFn) (s0 : List UInt8) (i1 : Int) : lay.tree call 38 d38 4 [(.str s0), (.int .i64 i1)] = t38x4 s0 i1 := by kernel_rfl
noncomputable def t38x5 (s0 : List UInt8) (i1 : Int) : Tree :=
  .nm (((List.length s0) : Nat) : Int) fun (r2 : Int) =>
  .nm (decide (i1 < r2)) fun (b3 : Bool) =>
  .ite b3 (.bind (byteAt s0 i1) fun (r4 : Int) =>
    .call 56 0 [(.int .u8 r4)] fun o =>
      outT o56x0 o (fun (b5 : Bool) =>
      .ite b5 (.nm (Go.IntKind.wrap .i64 (i1 + (1 : Int))) fun (r6 : Int) =>
        .jump 5 [(.str s0), (.int .i64 r6)])
        (.need (inLo i1 (List.length s0)) <|
        .done ((.ret ((.str (List.drop 0 (List.take (Int.toNat i1) s0))), .no)), ⟨[], ([] : List Nat)⟩)))
       (.fail))
    (.need (inLo i1 (List.length s0)) <|
    .done ((.ret ((.str (List.drop 0 (List.take (Int.toNat i1) s0))), .no)), ⟨[], ([] : List Nat)⟩))
set_option maxRecDepth 20000 in
theorem e38x5 (call : CallFn) (s0 : List UInt8) (i1 : Int) : lay.tree call 38 d38 5 [(.str s0), (.int .i64 i1)] = t38x5 s0 i1 := by kernel_rfl
theorem s38x0 (s0 : List UInt8) (g : List UInt8 → Tree) (els : Tree) : outT o38x0 ((.ret ((.str s0), .no)), ⟨[], ([] : List Nat)⟩) g els = .need (([] : List Nat) = ([] : List Nat)) (g s0) := rfl
/-! auklet/lex.inner -/
noncomputable def t39x0 (i0 : Int) : Tree :=
  .call 37 0 [(.int .u8 i0)] fun o =>
    outT o37x0 o (fun (b1 : Bool) =>
    .ite b1 (.done ((.ret ((.bool Bool.true), .no)), ⟨[], ([] : List Nat)⟩))
      (.call 58 0 [(.int .u8 i0)] fun o =>
        outT o58x0 o (fun (b2 : Bool) =>
        .done ((.ret ((.bool b2), .no)), ⟨[], ([] : List Nat)⟩))
         (.fail)))
     (.fail)
set_option maxRecDepth 20000 in
theorem e39x0 (call : CallFn) (i0 : Int) : lay.tree call 39 d39 0 [(.int .u8 i0)] = t39x0 i0 := by kernel_rfl
theorem s39x0 (b0 : Bool) (g : Bool → Tree) (els : Tree) : outT o39x0 ((.ret ((.bool b0), .no)), ⟨[], ([] : List Nat)⟩) g els = .need (([] : List Nat) = ([] : List Nat)) (g b0) := rfl
/-! (*strings.Builder).WriteByte -/
noncomputable def t42x0 (i0 : Int) (s1 : List UInt8) : Tree :=
  .need ((59 = 59) ∧ (5 = 5)) <|
  .need (((0 : Int) ≤ i0) ∧ (i0 < (256 : Int))) <|
  .need (((List.length s1) + 1) ≤ Ab.maxLen) <|
  .need ((Option.some (List.length s1)) = (Option.some (List.length s1))) <|
  .done ((.ret (.nili, .no)), ⟨[[((.bself 59 0), .no), ((.buf 5 (s1 ++ ([(UInt8.ofNat (Int.toNat i0))] : List UInt8))), (.tok 0))]], [(List.length (s1 ++ ([(UInt8.ofNat (Int.toNat i0))] : List UInt8)))]⟩)
set_option maxRecDepth 20000 in
theorem e42x0 (call : CallFn) (i0 : Int) (s1 : List UInt8) : lay.tree call 42 d42 0 [(.int .u8 i0), (.buf 5 s1)] = t42x0 i0 s1 := by kernel_rfl
theorem s42x0 (s0 : List UInt8) (g : List UInt8 → Tree) (els : Tree) : outT o42x0 ((.ret (.nili, .no)), ⟨[[((.bself 59 0), .no), ((.buf 5 s0), (.tok 0))]], [(List.length s0)]⟩) g els = .need ([(List.length s0)] = [(List.length s0)]) (g s0) := rfl
/-! (*strings.Builder).WriteString -/
noncomputable def t43x0 (s0 : List UInt8) (s1 : List UInt8) : Tree :=
  .need ((59 = 59) ∧ (5 = 5)) <|
  .need (((List.length s1) + (List.length s0)) ≤ Ab.maxLen) <|
  .need ((Option.some (List.length s1)) = (Option.some (List.length s1))) <|
  .nm (((List.length s0) : Nat) : Int) fun (r2 : Int) =>
  .done ((.ret ((.tup [(.int .i64 r2), .nili]), (.agg [.no, .no]))), ⟨[[((.bself 59 0), .no), ((.buf 5 (s1 ++ s0)), (.tok 0))]], [(List.length (s1 ++ s0))]⟩)
set_option maxRecDepth 20000 in
theorem e43x0 (call : CallFn) (s0 : List UInt8) (s1 : List UInt8) : lay.tree call 43 d43 0 [(.str s0), (.buf 5 s1)] = t43x0 s0 s1 := by kernel_rfl
theorem s43x0 (i0 : Int) (s1 : List UInt8) (g : Int → List UInt8 → Tree) (els : Tree) : outT o43x0 ((.ret ((.tup [(.int .i64 i0), .nili]), (.agg [.no, .no]))), ⟨[[((.bself 59 0), .no), ((.buf 5 s1), (.tok 0))]], [(List.length s1)]⟩) g els = .need ([(List.length s1)] = [(List.length s1)]) (g i0 s1) := rfl
/-! (*strings.Builder).String -/
noncomputable def t44x0 (s0 : List UInt8) : Tree :=
  .need ((Option.some (List.length s0)) = (Option.some (List.length s0))) <|
  .nm (((List.length s0) : Nat) : Int) fun (r1 : Int) =>
  .need (((Option.some (List.length s0)) = (Option.some (List.length s0))) ∧ ((r1 = (((List.length s0) : Nat) : Int)) ∧ ((List.length s0) ≤ Ab.maxLen))) <|
  .need ((((.buf 5 s0), (.tok 0)) : SV) = ((.buf 5 s0), (.tok 0))) <|
  .done ((.ret ((.str s0), .no)), ⟨[[((.bself 59 0), .no), ((.buf 5 s0), (.tok 0))]], [(List.length s0)]⟩)
set_option maxRecDepth 20000 in
theorem e44x0 (call : CallFn) (s0 : List UInt8) : lay.tree call 44 d44 0 [(.buf 5 s0)] = t44x0 s0 := by kernel_rfl
theorem s44x0 (s0 : List UInt8) (s1 : List UInt8) (g : List UInt8 → List UInt8 → Tree) (els : Tree) : outT o44x0 ((.ret ((.str s0), .no)), ⟨[[((.bself 59 0), .no), ((.buf 5 s1), (.tok 0))]], [(List.length s1)]⟩) g els = .need ([(List.length s1)] = [(List.length s1)]) (g s0 s1) := rfl
/-! strings.IndexByte -/
noncomputable def t54x0 (s0 : List UInt8) (i1 : Int) : Tree :=
  .call 78 0 [(.str s0), (.int .u8 i1)] fun o =>
    outT o78x0 o (fun (i2 : Int) =>
    .done ((.ret ((.int .i64 i2), .no)), ⟨[], ([] : List Nat)⟩))
     (.fail)
set_option maxRecDepth 20000 in
theorem e54x0 (call : CallFn) (s0 : List UInt8) (i1 : Int) : lay.tree call 54 d54 0 [(.str s0), (.int .u8 i1)] = t54x0 s0 i1 := by kernel_rfl
theorem s54x0 (i0 : Int) (g : Int → Tree) (els : Tree) : outT o54x0 ((.ret ((.int .i64 i0), .no)), ⟨[], ([] : List Nat)⟩) g els = .need (([] : List Nat) = ([] : List Nat)) (g i0) := rfl
/-! strings.HasPrefix -/
noncomputable def t55x0 (s0 : List UInt8) (s1 : List UInt8) : Tree :=
  .call 79 0 [(.str s0), (.str s1)] fun o =>
    outT o79x0 o (fun (b2 : Bool) =>
    .done ((.ret ((.bool b2), .no)), ⟨[], ([] : List Nat)⟩))
     (.fail)
set_option maxRecDepth 20000 in
theorem e55x0 (call : CallFn) (s0 : List UInt8) (s1 : List UInt8) : lay.tree call 55 d55 0 [(.str s0), (.str s1)] = t55x0 s0 s1 := by kernel_rfl
theorem s55x0 (b0 : Bool) (g : Bool → Tree) (els : Tree) : outT o55x0 ((.ret ((.bool b0), .no)), ⟨[], ([] : List Nat)⟩) g els = .need (([] : List Nat) = ([] : List Nat)) (g b0) := rfl
/-! (*auklet/lex.reader).skip$1 -/
noncomputable def t56x0 (i0 : Int) : Tree :=
  .nm (i0 != (10 : Int)) fun (b1 : Bool) =>
  .done ((.ret ((.bool b1), .no)), ⟨[], ([] : List Nat)⟩)
set_option maxRecDepth 20000 in
theorem e56x0 (call : CallFn) (i0 : Int) : lay.tree call 56 d56 0 [(.int .u8 i0)] = t56x0 i0 := by kernel_rfl
theorem s56x0 (b0 : Bool) (g : Bool → Tree) (els : Tree) : outT o56x0 ((.ret ((.bool b0), .no)), ⟨[], ([] : List Nat)⟩) g els = .need (([] : List Nat) = ([] : List Nat)) (g b0) := rfl
/-! (*auklet/lex.reader).name -/
noncomputable def t57x0 (s0 : List UInt8) (i1 : Int) (l2 : List AV) : Tree :=
  .need (inLo i1 (List.length s0)) <|
  .call 38 0 [(.str (List.drop (Int.toNat i1) (List.take (List.length s0) s0)))] fun o =>
    outT o38x0 o (fun (s3 : List UInt8) =>
    .nm (((List.length s3) : Nat) : Int) fun (r4 : Int) =>
    .nm (Go.IntKind.wrap .i64 (i1 + r4)) fun (r5 : Int) =>
    .nm (((List.length s3) : Nat) : Int) fun (r6 : Int) =>
    .nm (decide (r6 > (40 : Int))) fun (b7 : Bool) =>
    .ite b7 (.need ((AV.lows 0 l2) = Bool.true) <|
      .need ([(List.length l2)] = [(List.length l2)]) <|
      .call 64 0 [(.int .i64 (2 : Int)), (.str s0), (.int .i64 i1), (.sl l2)] fun o =>
        outT o64x0 o (fun (i8 : Int) (i9 : Int) (s10 : List UInt8) (i11 : Int) (l12 : List AV) =>
        .need ((AV.lows 0 l12) = Bool.true) <|
        .done ((.panic (.iface 45 (.agg [(.int .i64 i8), (.int .i64 i9)]))), ⟨[[((.str s10), .no), ((.int .i64 i11), .no), ((.sl l12), (.tok 0))]], [(List.length l12)]⟩))
         (.fail))
      (.call 35 0 [(.str ([32, 66, 69, 71, 73, 78, 32, 69, 78, 68, 32, 102, 117, 110, 99, 116, 105, 111, 110, 32, 105, 102, 32, 101, 108, 115, 101, 32, 119, 104, 105, 108, 101, 32, 102, 111, 114, 32, 100, 111, 32, 98, 114, 101, 97, 107, 32, 99, 111, 110, 116, 105, 110, 117, 101, 32, 110, 101, 120, 116, 32, 101, 120, 105, 116, 32, 114, 101, 116, 117, 114, 110, 32, 100, 101, 108, 101, 116, 101, 32, 105, 110, 32, 103, 101, 116, 108, 105, 110, 101, 32, 112, 114, 105, 110, 116, 32, 112, 114, 105, 110, 116, 102, 32, 112, 101, 114, 115, 105, 115, 116, 32] : List UInt8)), (.str s3)] fun o =>
        outT o35x0 o (fun (b13 : Bool) =>
        .ite b13 (.nm (((List.length s3) : Nat) : Int) fun (r14 : Int) =>
          .need ((AV.lows 0 l2) = Bool.true) <|
          .need ([(List.length l2)] = [(List.length l2)]) <|
          .call 34 0 [(.int .i64 (7 : Int)), (.str s3), (.int .i64 r14), (.str s0), (.int .i64 i1), (.sl l2)] fun o =>
            outT o34x0 o (fun (i18 : Int) (i19 : Int) (s20 : List UInt8) (i21 : Int) (l22 : List AV) =>
            .need ((AV.lows 0 l22) = Bool.true) <|
            .done ((.panic (.iface 45 (.agg [(.int .i64 i18), (.int .i64 i19)]))), ⟨[[((.str s20), .no), ((.int .i64 i21), .no), ((.sl l22), (.tok 0))]], [(List.length l22)]⟩))
             (outT o34x1 o (fun (s15 : List UInt8) (i16 : Int) (l17 : List AV) =>
            .need ((AV.lows 0 l17) = Bool.true) <|
            .done ((.ret ((.tup []), (.agg []))), ⟨[[((.str s15), .no), ((.int .i64 i16), .no), ((.sl l17), (.tok 0))]], [(List.length l17)]⟩))
             (.fail)))
          (.call 35 0 [(.str ([32, 108, 101, 110, 103, 116, 104, 32, 115, 117, 98, 115, 116, 114, 32, 105, 110, 100, 101, 120, 32, 115, 112, 108, 105, 116, 32, 115, 117, 98, 32, 103, 115, 117, 98, 32, 109, 97, 116, 99, 104, 32, 115, 112, 114, 105, 110, 116, 102, 32, 116, 111, 108, 111, 119, 101, 114, 32, 116, 111, 117, 112, 112, 101, 114, 32, 105, 110, 116, 32, 115, 121, 110, 99, 32] : List UInt8)), (.str s3)] fun o =>
            outT o35x0 o (fun (b23 : Bool) =>
            .ite b23 (.nm (((List.length s3) : Nat) : Int) fun (r24 : Int) =>
              .need ((AV.lows 0 l2) = Bool.true) <|
              .need ([(List.length l2)] = [(List.length l2)]) <|
              .call 34 0 [(.int .i64 (8 : Int)), (.str s3), (.int .i64 r24), (.str s0), (.int .i64 i1), (.sl l2)] fun o =>
                outT o34x0 o (fun (i28 : Int) (i29 : Int) (s30 : List UInt8) (i31 : Int) (l32 : List AV) =>
                .need ((AV.lows 0 l32) = Bool.true) <|
                .done ((.panic (.iface 45 (.agg [(.int .i64 i28), (.int .i64 i29)]))), ⟨[[((.str s30), .no), ((.int .i64 i31), .no), ((.sl l32), (.tok 0))]], [(List.length l32)]⟩))
                 (outT o34x1 o (fun (s25 : List UInt8) (i26 : Int) (l27 : List AV) =>
                .need ((AV.lows 0 l27) = Bool.true) <|
                .done ((.ret ((.tup []), (.agg []))), ⟨[[((.str s25), .no), ((.int .i64 i26), .no), ((.sl l27), (.tok 0))]], [(List.length l27)]⟩))
                 (.fail)))
              (.nm (((List.length s0) : Nat) : Int) fun (r33 : Int) =>
              .nm (decide (r5 < r33)) fun (b34 : Bool) =>
              .ite b34 (.bind (byteAt s0 r5) fun (r35 : Int) =>
                .nm (r35 == (40 : Int)) fun (b36 : Bool) =>
                .ite b36 (.nm (((List.length s3) : Nat) : Int) fun (r37 : Int) =>
                  .need ((AV.lows 0 l2) = Bool.true) <|
                  .need ([(List.length l2)] = [(List.length l2)]) <|
                  .call 34 0 [(.int .i64 (6 : Int)), (.str s3), (.int .i64 r37), (.str s0), (.int .i64 i1), (.sl l2)] fun o =>
                    outT o34x0 o (fun (i41 : Int) (i42 : Int) (s43 : List UInt8) (i44 : Int) (l45 : List AV) =>
                    .need ((AV.lows 0 l45) = Bool.true) <|
                    .done ((.panic (.iface 45 (.agg [(.int .i64 i41), (.int .i64 i42)]))), ⟨[[((.str s43), .no), ((.int .i64 i44), .no), ((.sl l45), (.tok 0))]], [(List.length l45)]⟩))
                     (outT o34x1 o (fun (s38 : List UInt8) (i39 : Int) (l40 : List AV) =>
                    .need ((AV.lows 0 l40) = Bool.true) <|
                    .done ((.ret ((.tup []), (.agg []))), ⟨[[((.str s38), .no), ((.int .i64 i39), .no), ((.sl l40), (.tok 0))]], [(List.length l40)]⟩))
                     (.fail)))
                  (.nm (((List.length s3) : Nat) : Int) fun (r46 : Int) =>
                  .need ((AV.lows 0 l2) = Bool.true) <|
                  .need ([(List.length l2)] = [(List.length l2)]) <|
                  .call 34 0 [(.int .i64 (5 : Int)), (.str s3), (.int .i64 r46), (.str s0), (.int .i64 i1), (.sl l2)] fun o =>
                    outT o34x0 o (fun (i50 : Int) (i51 : Int) (s52 : List UInt8) (i53 : Int) (l54 : List AV) =>
                    .need ((AV.lows 0 l54) = Bool.true) <|
                    .done ((.panic (.iface 45 (.agg [(.int .i64 i50), (.int .i64 i51)]))), ⟨[[((.str s52), .no), ((.int .i64 i53), .no), ((.sl l54), (.tok 0))]], [(List.length l54)]⟩))
                     (outT o34x1 o (fun (s47 : List UInt8) (i48 : Int) (l49 : List AV) =>
                    .need ((AV.lows 0 l49) = Bool.true) <|
                    .done ((.ret ((.tup []), (.agg []))), ⟨[[((.str s47), .no), ((.int .i64 i48), .no), ((.sl l49), (.tok 0))]], [(List.length l49)]⟩))
                     (.fail))))
                (.nm (((List.length s3) : Nat) : Int) fun (r55 : Int) =>
                .need ((AV.lows 0 l2) = Bool.true) <|
                .need ([(List.length l2)] = [(List.length l2)]) <|
                .call 34 0 [(.int .i64 (5 : Int)), (.str s3), (.int .i64 r55), (.str s0), (.int .i64 i1), (.sl l2)] fun o =>
                  outT o34x0 o (fun (i59 : Int) (i60 : Int) (s61 : List UInt8) (i62 : Int) (l63 : List AV) =>
                  .need ((AV.lows 0 l63) = Bool.true) <|
                  .done ((.panic (.iface 45 (.agg [(.int .i64 i59), (.int .i64 i60)]))), ⟨[[((.str s61), .no), ((.int .i64 i62), .no), ((.sl l63), (.tok 0))]], [(List.length l63)]⟩))
                   (outT o34x1 o (fun (s56 : List UInt8) (i57 : Int) (l58 : List AV) =>
                  .need ((AV.lows 0 l58) = Bool.true) <|
                  .done ((.ret ((.tup []), (.agg []))), ⟨[[((.str s56), .no), ((.int .i64 i57), .no), ((.sl l58), (.tok 0))]], [(List.length l58)]⟩))
                   (.fail)))))
             (.fail)))
         (.fail)))
     (.fail)
set_option maxRecDepth 20000 in
theorem e57x0 (call : CallFn) (s0 : List UInt8) (i1 : Int) (l2 : List AV) : lay.tree call 57 d57 0 [(.str s0), (.int .i64 i1), (.sl l2)] = t57x0 s0 i1 l2 := by kernel_rfl
theorem s57x0 (i0 : Int) (i1 : Int) (s2 : List UInt8) (i3 : Int) (l4 : List AV) (g : Int → Int → List UInt8 → Int → List AV → Tree) (els : Tree) : outT o57x0 ((.panic (.iface 45 (.agg [(.int .i64 i0), (.int .i64 i1)]))), ⟨[[((.str s2), .no), ((.int .i64 i3), .no), ((.sl l4), (.tok 0))]], [(List.length l4)]⟩) g els = .need ([(List.length l4)] = [(List.length l4)]) (g i0 i1 s2 i3 l4) := rfl
theorem s57x1 (s0 : List UInt8) (i1 : Int) (l2 : List AV) (g : List UInt8 → Int → List AV → Tree) (els : Tree) : outT o57x1 ((.ret ((.tup []), (.agg []))), ⟨[[((.str s0), .no), ((.int .i64 i1), .no), ((.sl l2), (.tok 0))]], [(List.length l2)]⟩) g els = .need ([(List.length l2)] = [(List.length l2)]) (g s0 i1 l2) := rfl
theorem n57x0x1 (s0 : List UInt8) (i1 : Int) (l2 : List AV) (g : Int → Int → List UInt8 → Int → List AV → Tree) (els : Tree) : outT o57x0 ((.ret ((.tup []), (.agg []))), ⟨[[((.str s0), .no), ((.int .i64 i1), .no), ((.sl l2), (.tok 0))]], [(List.length l2)]⟩) g els = els := rfl
/-! auklet/lex.digit -/
noncomputable def t58x0 (i0 : Int) : Tree :=
  .nm (decide (i0 ≥ (48 : Int))) fun (b1 : Bool) =>
  .ite b1 (.nm (decide (i0 ≤ (57 : Int))) fun (b2 : Bool) =>
    .done ((.ret ((.bool b2), .no)), ⟨[], ([] : List Nat)⟩))
    (.done ((.ret ((.bool Bool.false), .no)), ⟨[], ([] : List Nat)⟩))
set_option maxRecDepth 20000 in
theorem e58x0 (call : CallFn) (i0 : Int) : lay.tree call 58 d58 0 [(.int .u8 i0)] = t58x0 i0 := by kernel_rfl
theorem s58x0 (b0 : Bool) (g : Bool → Tree) (els : Tree) : outT o58x0 ((.ret ((.bool b0), .no)), ⟨[], ([] : List Nat)⟩) g els = .need (([] : List Nat) = ([] : List Nat)) (g b0) := rfl
/-! auklet/lex.number -/
noncomputable def t59x0 (s0 : List UInt8) : Tree :=
  .call 38 1 [(.str s0)] fun o =>
    outT o38x0 o (fun (s1 : List UInt8) =>
    .nm (((List.length s1) : Nat) : Int) fun (r2 : Int) =>
    .nm (((List.length s0) : Nat) : Int) fun (r3 : Int) =>
    .nm (decide (r2 < r3)) fun (b4 : Bool) =>
    .ite b4 (.bind (byteAt s0 r2) fun (r5 : Int) =>
      .nm (r5 == (46 : Int)) fun (b6 : Bool) =>
      .ite b6 (.nm (Go.IntKind.wrap .i64 (r2 + (1 : Int))) fun (r7 : Int) =>
        .need (inLo r7 (List.length s0)) <|
        .call 38 1 [(.str (List.drop (Int.toNat r7) (List.take (List.length s0) s0)))] fun o =>
          outT o38x0 o (fun (s8 : List UInt8) =>
          .nm (((List.length s8) : Nat) : Int) fun (r9 : Int) =>
          .nm (Go.IntKind.wrap .i64 (r7 + r9)) fun (r10 : Int) =>
          .need (inLo r10 (List.length s0)) <|
          .done ((.ret ((.str (List.drop 0 (List.take (Int.toNat r10) s0))), .no)), ⟨[], ([] : List Nat)⟩))
           (.fail))
        (.need (inLo r2 (List.length s0)) <|
        .done ((.ret ((.str (List.drop 0 (List.take (Int.toNat r2) s0))), .no)), ⟨[], ([] : List Nat)⟩)))
      (.need (inLo r2 (List.length s0)) <|
      .done ((.ret ((.str (List.drop 0 (List.take (Int.toNat r2) s0))), .no)), ⟨[], ([] : List Nat)⟩)))
     (.fail)
set_option maxRecDepth 20000 in
theorem e59x0 (call : CallFn) (s0 : List UInt8) : lay.tree call 59 d59 0 [(.str s0)] = t59x0 s0 := by kernel_rfl
theorem s59x0 (s0 : List UInt8) (g : List UInt8 → Tree) (els : Tree) : outT o59x0 ((.ret ((.str s0), .no)), ⟨[], ([] : List Nat)⟩) g els = .need (([] : List Nat) = ([] : List Nat)) (g s0) := rfl
/-! (*auklet/lex.reader).text -/
noncomputable def t60x0 (s0 : List UInt8) (i1 : Int) (l2 : List AV) : Tree :=
  .nm (Go.IntKind.wrap .i64 (i1 + (1 : Int))) fun (r3 : Int) =>
  .need ([(List.length l2), 0] = [(List.length l2), 0]) <|
  .jump 1 [(.int .i64 r3), (.str s0), (.int .i64 i1), (.sl l2), (.buf 5 ([] : List UInt8))]
set_option maxRecDepth 20000 in
theorem e60x0 (call : CallFn) (s0 : List UInt8) (i1 : Int) (l2 : List AV) : lay.tree call 60 d60 0 [(.str s0), (.int .i64 i1), (.sl l2)] = t60x0 s0 i1 l2 := by kernel_rfl
noncomputable def t60x1 (i0 : Int) (s1 : List UInt8) (i2 : Int) (l3 : List AV) (s4 : List UInt8) : Tree :=
  .nm (((List.length s1) : Nat) : Int) fun (r5 : Int) =>
  .nm (decide (i0 < r5)) fun (b6 : Bool) =>
  .ite b6 (.bind (byteAt s1 i0) fun (r7 : Int) =>
    .nm (r7 == (10 : Int)) fun (b8 : Bool) =>
    .ite b8 (.need ((AV.lows 0 l3) = Bool.true) <|
      .need ([(List.length l3)] = [(List.length l3)]) <|
      .call 64 0 [(.int .i64 (3 : Int)), (.str s1), (.int .i64 i2), (.sl l3)] fun o =>
        outT o64x0 o (fun (i9 : Int) (i10 : Int) (s11 : List UInt8) (i12 : Int) (l13 : List AV) =>
        .need ((AV.lows 0 l13) = Bool.true) <|
        .done ((.panic (.iface 45 (.agg [(.int .i64 i9), (.int .i64 i10)]))), ⟨[[((.str s11), .no), ((.int .i64 i12), .no), ((.sl l13), (.tok 0))]], [(List.length l13)]⟩))
         (.fail))
      (.nm (r7 == (34 : Int)) fun (b14 : Bool) =>
      .ite b14 (.need ([(List.length s4)] = [(List.length s4)]) <|
        .call 44 0 [(.buf 5 s4)] fun o =>
          outT o44x0 o (fun (s15 : List UInt8) (s16 : List UInt8) =>
          .nm (Go.IntKind.wrap .i64 (i0 + (1 : Int))) fun (r17 : Int) =>
          .nm (Go.IntKind.wrap .i64 (r17 - i2)) fun (r18 : Int) =>
          .need ((AV.lows 0 l3) = Bool.true) <|
          .need ([(List.length l3)] = [(List.length l3)]) <|
          .call 34 0 [(.int .i64 (3 : Int)), (.str s15), (.int .i64 r18), (.str s1), (.int .i64 i2), (.sl l3)] fun o =>
            outT o34x0 o (fun (i22 : Int) (i23 : Int) (s24 : List UInt8) (i25 : Int) (l26 : List AV) =>
            .need ((AV.lows 0 l26) = Bool.true) <|
            .need ((((.int .i64 i2), .no) : SV) = ((.int .i64 i2), .no)) <|
            .done ((.panic (.iface 45 (.agg [(.int .i64 i22), (.int .i64 i23)]))), ⟨[[((.str s24), .no), ((.int .i64 i25), .no), ((.sl l26), (.tok 0))]], [(List.length l26)]⟩))
             (outT o34x1 o (fun (s19 : List UInt8) (i20 : Int) (l21 : List AV) =>
            .need ((AV.lows 0 l21) = Bool.true) <|
            .need ((((.int .i64 i2), .no) : SV) = ((.int .i64 i2), .no)) <|
            .done ((.ret ((.tup []), (.agg []))), ⟨[[((.str s19), .no), ((.int .i64 i20), .no), ((.sl l21), (.tok 0))]], [(List.length l21)]⟩))
             (.fail)))
           (.fail))
        (.nm (r7 == (92 : Int)) fun (b27 : Bool) =>
        .ite b27 (.nm (Go.IntKind.wrap .i64 (i0 + (1 : Int))) fun (r28 : Int) =>
          .nm (((List.length s1) : Nat) : Int) fun (r29 : Int) =>
          .nm (decide (r28 < r29)) fun (b30 : Bool) =>
          .ite b30 (.nm (Go.IntKind.wrap .i64 (i0 + (1 : Int))) fun (r31 : Int) =>
            .bind (byteAt s1 r31) fun (r32 : Int) =>
            .call 80 0 [(.int .u8 r32)] fun o =>
              outT o80x0 o (fun (s33 : List UInt8) =>
              .need ([(List.length s4)] = [(List.length s4)]) <|
              .call 43 0 [(.str s33), (.buf 5 s4)] fun o =>
                outT o43x0 o (fun (i34 : Int) (s35 : List UInt8) =>
                .bind (byteAt s1 r31) fun (r36 : Int) =>
                .nm (r36 == (10 : Int)) fun (b37 : Bool) =>
                .ite b37 (.need ((AV.lows 0 l3) = Bool.true) <|
                  .need ([(List.length l3)] = [(List.length l3)]) <|
                  .call 64 0 [(.int .i64 (3 : Int)), (.str s1), (.int .i64 i2), (.sl l3)] fun o =>
                    outT o64x0 o (fun (i38 : Int) (i39 : Int) (s40 : List UInt8) (i41 : Int) (l42 : List AV) =>
                    .need ((AV.lows 0 l42) = Bool.true) <|
                    .done ((.panic (.iface 45 (.agg [(.int .i64 i38), (.int .i64 i39)]))), ⟨[[((.str s40), .no), ((.int .i64 i41), .no), ((.sl l42), (.tok 0))]], [(List.length l42)]⟩))
                     (.fail))
                  (.nm (Go.IntKind.wrap .i64 (r31 + (1 : Int))) fun (r43 : Int) =>
                  .need ([(List.length l3), (List.length s35)] = [(List.length l3), (List.length s35)]) <|
                  .jump 1 [(.int .i64 r43), (.str s1), (.int .i64 i2), (.sl l3), (.buf 5 s35)]))
                 (.fail))
               (.fail))
            (.need ([(List.length s4)] = [(List.length s4)]) <|
            .call 42 0 [(.int .u8 r7), (.buf 5 s4)] fun o =>
              outT o42x0 o (fun (s44 : List UInt8) =>
              .nm (Go.IntKind.wrap .i64 (i0 + (1 : Int))) fun (r45 : Int) =>
              .need ([(List.length l3), (List.length s44)] = [(List.length l3), (List.length s44)]) <|
              .jump 1 [(.int .i64 r45), (.str s1), (.int .i64 i2), (.sl l3), (.buf 5 s44)])
               (.fail)))
          (.need ([(List.length s4)] = [(List.length s4)]) <|
          .call 42 0 [(.int .u8 r7), (.buf 5 s4)] fun o =>
            outT o42x0 o (fun (s46 : List UInt8) =>
            .nm (Go.IntKind.wrap .i64 (i0 + (1 : Int))) fun (r47 : Int) =>
            .need ([(List.length l3), (List.length s46)] = [(List.length l3), (List.length s46)]) <|
            .jump 1 [(.int .i64 r47), (.str s1), (.int .i64 i2), (.sl l3), (.buf 5 s46)])
             (.fail)))))
    (.need ((AV.lows 0 l3) = Bool.true) <|
    .need ([(List.length l3)] = [(List.length l3)]) <|
    .call 64 0 [(.int .i64 (3 : Int)), (.str s1), (.int .i64 i2), (.sl l3)] fun o =>
      outT o64x0 o (fun (i48 : Int) (i49 : Int) (s50 : List UInt8) (i51 : Int) (l52 : List AV) =>
      .need ((AV.lows 0 l52) = Bool.true) <|
      .done ((.panic (.iface 45 (.agg [(.int .i64 i48), (.int .i64 i49)]))), ⟨[[((.str s50), .no), ((.int .i64 i51), .no), ((.sl l52), (.tok 0))]], [(List.length l52)]⟩))
       (.fail))
set_option maxRecDepth 20000 in
theorem e60x1 (call : CallFn) (i0 : Int) (s1 : List UInt8) (i2 : Int) (l3 : List AV) (s4 : List UInt8) : lay.tree call 60 d60 1 [(.int .i64 i0), (.str s1), (.int .i64 i2), (.sl l3), (.buf 5 s4)] = t60x1 i0 s1 i2 l3 s4 := by kernel_rfl
theorem s60x0 (i0 : Int) (i1 : Int) (s2 : List UInt8) (i3 : Int) (l4 : List AV) (g : Int → Int → List UInt8 → Int → List AV → Tree) (els : Tree) : outT o60x0 ((.panic (.iface 45 (.agg [(.int .i64 i0), (.int .i64 i1)]))), ⟨[[((.str s2), .no), ((.int .i64 i3), .no), ((.sl l4), (.tok 0))]], [(List.length l4)]⟩) g els = .need ([(List.length l4)] = [(List.length l4)]) (g i0 i1 s2 i3 l4) := rfl
theorem s60x1 (s0 : List UInt8) (i1 : Int) (l2 : List AV) (g : List UInt8 → Int → List AV → Tree) (els : Tree) : outT o60x1 ((.ret ((.tup []), (.agg []))), ⟨[[((.str s0), .no), ((.int .i64 i1), .no), ((.sl l2), (.tok 0))]], [(List.length l2)]⟩) g els = .need ([(List.length l2)] = [(List.length l2)]) (g s0 i1 l2) := rfl
theorem n60x0x1 (s0 : List UInt8) (i1 : Int) (l2 : List AV) (g : Int → Int → List UInt8 → Int → List AV → Tree) (els : Tree) : outT o60x0 ((.ret ((.tup []), (.agg []))), ⟨[[((.str s0), .no), ((.int .i64 i1), .no), ((.sl l2), (.tok 0))]], [(List.length l2)]⟩) g els = els := rfl
/-! (*auklet/lex.reader).operand -/
noncomputable def t61x0 (s0 : List UInt8) (i1 : Int) (l2 : List AV) : Tree :=
  .nm (((List.length l2) : Nat) : Int) fun (r3 : Int) =>
  .nm (r3 == (0 : Int)) fun (b4 : Bool) =>
  .ite b4 (.done ((.ret ((.bool Bool.true), .no)), ⟨[[((.str s0), .no), ((.int .i64 i1), .no), ((.sl l2), (.tok 0))]], [(List.length l2)]⟩))
    (.nm (((List.length l2) : Nat) : Int) fun (r5 : Int) =>
    .nm (Go.IntKind.wrap .i64 (r5 - (1 : Int))) fun (r6 : Int) =>
    .opn [.int .i64, .str, .int .i64] (elemAt l2 r6) <| fun (i7 : Int) (s8 : List UInt8) (i9 : Int) =>
    .nm (i7 == (2 : Int)) fun (b10 : Bool) =>
    .ite b10 (.ite b10 (.done ((.ret ((.bool Bool.false), .no)), ⟨[[((.str s0), .no), ((.int .i64 i1), .no), ((.sl l2), (.tok 0))]], [(List.length l2)]⟩))
        (.nm (i7 == (9 : Int)) fun (b11 : Bool) =>
        .ite b11 (.call 35 0 [(.str ([32, 41, 32, 93, 32, 43, 43, 32, 45, 45, 32, 36, 32] : List UInt8)), (.str s8)] fun o =>
            outT o35x0 o (fun (b12 : Bool) =>
            .nm (Bool.not b12) fun (b13 : Bool) =>
            .done ((.ret ((.bool b13), .no)), ⟨[[((.str s0), .no), ((.int .i64 i1), .no), ((.sl l2), (.tok 0))]], [(List.length l2)]⟩))
             (.fail))
          (.done ((.ret ((.bool Bool.true), .no)), ⟨[[((.str s0), .no), ((.int .i64 i1), .no), ((.sl l2), (.tok 0))]], [(List.length l2)]⟩))))
      (.nm (i7 == (3 : Int)) fun (b14 : Bool) =>
      .ite b14 (.ite b14 (.done ((.ret ((.bool Bool.false), .no)), ⟨[[((.str s0), .no), ((.int .i64 i1), .no), ((.sl l2), (.tok 0))]], [(List.length l2)]⟩))
          (.nm (i7 == (9 : Int)) fun (b15 : Bool) =>
          .ite b15 (.call 35 0 [(.str ([32, 41, 32, 93, 32, 43, 43, 32, 45, 45, 32, 36, 32] : List UInt8)), (.str s8)] fun o =>
              outT o35x0 o (fun (b16 : Bool) =>
              .nm (Bool.not b16) fun (b17 : Bool) =>
              .done ((.ret ((.bool b17), .no)), ⟨[[((.str s0), .no), ((.int .i64 i1), .no), ((.sl l2), (.tok 0))]], [(List.length l2)]⟩))
               (.fail))
            (.done ((.ret ((.bool Bool.true), .no)), ⟨[[((.str s0), .no), ((.int .i64 i1), .no), ((.sl l2), (.tok 0))]], [(List.length l2)]⟩))))
        (.nm (i7 == (5 : Int)) fun (b18 : Bool) =>
        .ite b18 (.ite b18 (.done ((.ret ((.bool Bool.false), .no)), ⟨[[((.str s0), .no), ((.int .i64 i1), .no), ((.sl l2), (.tok 0))]], [(List.length l2)]⟩))
            (.nm (i7 == (9 : Int)) fun (b19 : Bool) =>
            .ite b19 (.call 35 0 [(.str ([32, 41, 32, 93, 32, 43, 43, 32, 45, 45, 32, 36, 32] : List UInt8)), (.str s8)] fun o =>
                outT o35x0 o (fun (b20 : Bool) =>
                .nm (Bool.not b20) fun (b21 : Bool) =>
                .done ((.ret ((.bool b21), .no)), ⟨[[((.str s0), .no), ((.int .i64 i1), .no), ((.sl l2), (.tok 0))]], [(List.length l2)]⟩))
                 (.fail))
              (.done ((.ret ((.bool Bool.true), .no)), ⟨[[((.str s0), .no), ((.int .i64 i1), .no), ((.sl l2), (.tok 0))]], [(List.length l2)]⟩))))
          (.nm (i7 == (8 : Int)) fun (b22 : Bool) =>
          .ite b22 (.done ((.ret ((.bool Bool.false), .no)), ⟨[[((.str s0), .no), ((.int .i64 i1), .no), ((.sl l2), (.tok 0))]], [(List.length l2)]⟩))
            (.nm (i7 == (9 : Int)) fun (b23 : Bool) =>
            .ite b23 (.call 35 0 [(.str ([32, 41, 32, 93, 32, 43, 43, 32, 45, 45, 32, 36, 32] : List UInt8)), (.str s8)] fun o =>
                outT o35x0 o (fun (b24 : Bool) =>
                .nm (Bool.not b24) fun (b25 : Bool) =>
                .done ((.ret ((.bool b25), .no)), ⟨[[((.str s0), .no), ((.int .i64 i1), .no), ((.sl l2), (.tok 0))]], [(List.length l2)]⟩))
                 (.fail))
              (.done ((.ret ((.bool Bool.true), .no)), ⟨[[((.str s0), .no), ((.int .i64 i1), .no), ((.sl l2), (.tok 0))]], [(List.length l2)]⟩)))))))
set_option maxRecDepth 20000 in
theorem e61x0 (call : CallFn) (s0 : List UInt8) (i1 : Int) (l2 : List AV) : lay.tree call 61 d61 0 [(.str s0), (.int .i64 i1), (.sl l2)] = t61x0 s0 i1 l2 := by kernel_rfl
theorem s61x0 (b0 : Bool) (s1 : List UInt8) (i2 : Int) (l3 : List AV) (g : Bool → List UInt8 → Int → List AV → Tree) (els : Tree) : outT o61x0 ((.ret ((.bool b0), .no)), ⟨[[((.str s1), .no), ((.int .i64 i2), .no), ((.sl l3), (.tok 0))]], [(List.length l3)]⟩) g els = .need ([(List.length l3)] = [(List.length l3)]) (g b0 s1 i2 l3) := rfl
/-! (*auklet/lex.reader).pattern -/
noncomputable def t62x0 (s0 : List UInt8) (i1 : Int) (l2 : List AV) : Tree :=
  .nm (Go.IntKind.wrap .i64 (i1 + (1 : Int))) fun (r3 : Int) =>
  .need ([(List.length l2), 0] = [(List.length l2), 0]) <|
  .jump 1 [(.int .i64 (-(1 : Int))), (.int .i64 r3), (.str s0), (.int .i64 i1), (.sl l2), (.buf 5 ([] : List UInt8))]
set_option maxRecDepth 20000 in
theorem e62x0 (call : CallFn) (s0 : List UInt8) (i1 : Int) (l2 : List AV) : lay.tree call 62 d62 0 [(.str s0), (.int .i64 i1), (.sl l2)] = t62x0 s0 i1 l2 := by kernel_rfl
noncomputable def t62x1 (i0 : Int) (i1 : Int) (s2 : List UInt8) (i3 : Int) (l4 : List AV) (s5 : List UInt8) : Tree :=
  .nm (((List.length s2) : Nat) : Int) fun (r6 : Int) =>
  .nm (decide (i1 < r6)) fun (b7 : Bool) =>
  .ite b7 (.bind (byteAt s2 i1) fun (r8 : Int) =>
    .nm (r8 == (10 : Int)) fun (b9 : Bool) =>
    .ite b9 (.need ((AV.lows 0 l4) = Bool.true) <|
      .need ([(List.length l4)] = [(List.length l4)]) <|
      .call 64 0 [(.int .i64 (3 : Int)), (.str s2), (.int .i64 i3), (.sl l4)] fun o =>
        outT o64x0 o (fun (i10 : Int) (i11 : Int) (s12 : List UInt8) (i13 : Int) (l14 : List AV) =>
        .need ((AV.lows 0 l14) = Bool.true) <|
        .done ((.panic (.iface 45 (.agg [(.int .i64 i10), (.int .i64 i11)]))), ⟨[[((.str s12), .no), ((.int .i64 i13), .no), ((.sl l14), (.tok 0))]], [(List.length l14)]⟩))
         (.fail))
      (.nm (r8 == (92 : Int)) fun (b15 : Bool) =>
      .ite b15 (.nm (Go.IntKind.wrap .i64 (i1 + (1 : Int))) fun (r16 : Int) =>
        .nm (((List.length s2) : Nat) : Int) fun (r17 : Int) =>
        .nm (decide (r16 < r17)) fun (b18 : Bool) =>
        .ite b18 (.nm (Go.IntKind.wrap .i64 (i1 + (1 : Int))) fun (r19 : Int) =>
          .bind (byteAt s2 r19) fun (r20 : Int) =>
          .nm (r20 != (10 : Int)) fun (b21 : Bool) =>
          .ite b21 (.need ([(List.length l4), (List.length s5)] = [(List.length l4), (List.length s5)]) <|
            .jump 2 [(.int .i64 i0), (.int .i64 i1), (.int .u8 r8), (.bool b7), (.bool b9), (.bool b21), (.str s2), (.int .i64 i3), (.sl l4), (.buf 5 s5)])
            (.need ([(List.length l4), (List.length s5)] = [(List.length l4), (List.length s5)]) <|
            .jump 3 [(.int .i64 i0), (.int .i64 i1), (.int .u8 r8), (.bool b7), (.bool b9), (.bool b21), (.str s2), (.int .i64 i3), (.sl l4), (.buf 5 s5)]))
          (.need ([(List.length l4), (List.length s5)] = [(List.length l4), (List.length s5)]) <|
          .jump 3 [(.int .i64 i0), (.int .i64 i1), (.int .u8 r8), (.bool b7), (.bool b9), (.bool Bool.false), (.str s2), (.int .i64 i3), (.sl l4), (.buf 5 s5)]))
        (.need ([(List.length l4), (List.length s5)] = [(List.length l4), (List.length s5)]) <|
        .jump 3 [(.int .i64 i0), (.int .i64 i1), (.int .u8 r8), (.bool b7), (.bool b9), (.bool Bool.false), (.str s2), (.int .i64 i3), (.sl l4), (.buf 5 s5)])))
    (.need ((AV.lows 0 l4) = Bool.true) <|
    .need ([(List.length l4)] = [(List.length l4)]) <|
    .call 64 0 [(.int .i64 (3 : Int)), (.str s2), (.int .i64 i3), (.sl l4)] fun o =>
      outT o64x0 o (fun (i22 : Int) (i23 : Int) (s24 : List UInt8) (i25 : Int) (l26 : List AV) =>
      .need ((AV.lows 0 l26) = Bool.true) <|
      .done ((.panic (.iface 45 (.agg [(.int .i64 i22), (.int .i64 i23)]))), ⟨[[((.str s24), .no), ((.int .i64 i25), .no), ((.sl l26), (.tok 0))]], [(List.length l26)]⟩))
       (.fail))
set_option maxRecDepth 20000 in
theorem e62x1 (call : CallFn) (i0 : Int) (i1 : Int) (s2 : List UInt8) (i3 : Int) (l4 : List AV) (s5 : List UInt8) : lay.tree call 62 d62 1 [(.int .i64 i0), (.int .i64 i1), (.str s2), (.int .i64 i3), (.sl l4), (.buf 5 s5)] = t62x1 i0 i1 s2 i3 l4 s5 := by kernel_rfl
noncomputable def t62x2 (i0 : Int) (i1 : Int) (i2 : Int) (b3 : Bool) (b4 : Bool) (b5 : Bool) (s6 : List UInt8) (i7 : Int) (l8 : List AV) (s9 : List UInt8) : Tree :=
  .nm (Go.IntKind.wrap .i64 (i1 + (1 : Int))) fun (r10 : Int) =>
  .bind (byteAt s6 r10) fun (r11 : Int) =>
  .nm (r11 != (47 : Int)) fun (b12 : Bool) =>
  .ite b12 (.need ([(List.length s9)] = [(List.length s9)]) <|
    .call 42 0 [(.int .u8 (92 : Int)), (.buf 5 s9)] fun o =>
      outT o42x0 o (fun (s13 : List UInt8) =>
      .bind (byteAt s6 r10) fun (r14 : Int) =>
      .need ([(List.length s13)] = [(List.length s13)]) <|
      .call 42 0 [(.int .u8 r14), (.buf 5 s13)] fun o =>
        outT o42x0 o (fun (s15 : List UInt8) =>
        .nm (Go.IntKind.wrap .i64 (r10 + (1 : Int))) fun (r16 : Int) =>
        .need ([(List.length l8), (List.length s15)] = [(List.length l8), (List.length s15)]) <|
        .jump 1 [(.int .i64 i0), (.int .i64 r16), (.str s6), (.int .i64 i7), (.sl l8), (.buf 5 s15)])
         (.fail))
       (.fail))
    (.bind (byteAt s6 r10) fun (r17 : Int) =>
    .need ([(List.length s9)] = [(List.length s9)]) <|
    .call 42 0 [(.int .u8 r17), (.buf 5 s9)] fun o =>
      outT o42x0 o (fun (s18 : List UInt8) =>
      .nm (Go.IntKind.wrap .i64 (r10 + (1 : Int))) fun (r19 : Int) =>
      .need ([(List.length l8), (List.length s18)] = [(List.length l8), (List.length s18)]) <|
      .jump 1 [(.int .i64 i0), (.int .i64 r19), (.str s6), (.int .i64 i7), (.sl l8), (.buf 5 s18)])
       (.fail))
set_option maxRecDepth 20000 in
theorem e62x2 (call : CallFn) (i0 : Int) (i1 : Int) (i2 : Int) (b3 : Bool) (b4 : Bool) (b5 : Bool) (s6 : List UInt8) (i7 : Int) (l8 : List AV) (s9 : List UInt8) : lay.tree call 62 d62 2 [(.int .i64 i0), (.int .i64 i1), (.int .u8 i2), (.bool b3), (.bool b4), (.bool b5), (.str s6), (.int .i64 i7), (.sl l8), (.buf 5 s9)] = t62x2 i0 i1 i2 b3 b4 b5 s6 i7 l8 s9 := by kernel_rfl
noncomputable def t62x3 (i0 : Int) (i1 : Int) (i2 : Int) (b3 : Bool) (b4 : Bool) (b5 : Bool) (s6 : List UInt8) (i7 : Int) (l8 : List AV) (s9 : List UInt8) : Tree :=
  .nm (i2 == (91 : Int)) fun (b10 : Bool) =>
  .ite b10 (.nm (decide (i0 < (0 : Int))) fun (b11 : Bool) =>
    .ite b11 (.need ([(List.length l8), (List.length s9)] = [(List.length l8), (List.length s9)]) <|
      .jump 4 [(.int .i64 i0), (.int .i64 i1), (.int .u8 i2), (.bool b3), (.bool b4), (.bool b5), (.bool b11), (.str s6), (.int .i64 i7), (.sl l8), (.buf 5 s9)])
      (.need ([(List.length l8), (List.length s9)] = [(List.length l8), (List.length s9)]) <|
      .jump 5 [(.int .i64 i0), (.int .i64 i1), (.int .u8 i2), (.bool b3), (.bool b4), (.bool b5), (.bool b11), (.str s6), (.int .i64 i7), (.sl l8), (.buf 5 s9)]))
    (.need ([(List.length l8), (List.length s9)] = [(List.length l8), (List.length s9)]) <|
    .jump 5 [(.int .i64 i0), (.int .i64 i1), (.int .u8 i2), (.bool b3), (.bool b4), (.bool b5), (.bool Bool.false), (.str s6), (.int .i64 i7), (.sl l8), (.buf 5 s9)])
set_option maxRecDepth 20000 in
theorem e62x3 (call : CallFn) (i0 : Int) (i1 : Int) (i2 : Int) (b3 : Bool) (b4 : Bool) (b5 : Bool) (s6 : List UInt8) (i7 : Int) (l8 : List AV) (s9 : List UInt8) : lay.tree call 62 d62 3 [(.int .i64 i0), (.int .i64 i1), (.int .u8 i2), (.bool b3), (.bool b4), (.bool b5), (.str s6), (.int .i64 i7), (.sl l8), (.buf 5 s9)] = t62x3 i0 i1 i2 b3 b4 b5 s6 i7 l8 s9 := by kernel_rfl
noncomputable def t62x4 (i0 : Int) (i1 : Int) (i2 : Int) (b3 : Bool) (b4 : Bool) (b5 : Bool) (b6 : Bool) (s7 : List UInt8) (i8 : Int) (l9 : List AV) (s10 : List UInt8) : Tree :=
  .nm (Go.IntKind.wrap .i64 (i1 + (1 : Int))) fun (r11 : Int) =>
  .need (inLo r11 (List.length s7)) <|
  .call 55 0 [(.str (List.drop (Int.toNat r11) (List.take (List.length s7) s7))), (.str ([94] : List UInt8))] fun o =>
    outT o55x0 o (fun (b12 : Bool) =>
    .ite b12 (.nm (Go.IntKind.wrap .i64 (r11 + (1 : Int))) fun (r13 : Int) =>
      .need ([(List.length s10)] = [(List.length s10)]) <|
      .call 42 0 [(.int .u8 i2), (.buf 5 s10)] fun o =>
        outT o42x0 o (fun (s14 : List UInt8) =>
        .nm (Go.IntKind.wrap .i64 (i1 + (1 : Int))) fun (r15 : Int) =>
        .need ([(List.length l9), (List.length s14)] = [(List.length l9), (List.length s14)]) <|
        .jump 1 [(.int .i64 r13), (.int .i64 r15), (.str s7), (.int .i64 i8), (.sl l9), (.buf 5 s14)])
         (.fail))
      (.need ([(List.length s10)] = [(List.length s10)]) <|
      .call 42 0 [(.int .u8 i2), (.buf 5 s10)] fun o =>
        outT o42x0 o (fun (s16 : List UInt8) =>
        .nm (Go.IntKind.wrap .i64 (i1 + (1 : Int))) fun (r17 : Int) =>
        .need ([(List.length l9), (List.length s16)] = [(List.length l9), (List.length s16)]) <|
        .jump 1 [(.int .i64 r11), (.int .i64 r17), (.str s7), (.int .i64 i8), (.sl l9), (.buf 5 s16)])
         (.fail)))
     (.fail)
set_option maxRecDepth 20000 in
theorem e62x4 (call : CallFn) (i0 : Int) (i1 : Int) (i2 : Int) (b3 : Bool) (b4 : Bool) (b5 : Bool) (b6 : Bool) (s7 : List UInt8) (i8 : Int) (l9 : List AV) (s10 : List UInt8) : lay.tree call 62 d62 4 [(.int .i64 i0), (.int .i64 i1), (.int .u8 i2), (.bool b3), (.bool b4), (.bool b5), (.bool b6), (.str s7), (.int .i64 i8), (.sl l9), (.buf 5 s10)] = t62x4 i0 i1 i2 b3 b4 b5 b6 s7 i8 l9 s10 := by kernel_rfl
noncomputable def t62x5 (i0 : Int) (i1 : Int) (i2 : Int) (b3 : Bool) (b4 : Bool) (b5 : Bool) (b6 : Bool) (s7 : List UInt8) (i8 : Int) (l9 : List AV) (s10 : List UInt8) : Tree :=
  .nm (i2 == (93 : Int)) fun (b11 : Bool) =>
  .ite b11 (.nm (decide (i0 ≥ (0 : Int))) fun (b12 : Bool) =>
    .ite b12 (.nm (decide (i1 > i0)) fun (b13 : Bool) =>
      .ite b13 (.need ([(List.length s10)] = [(List.length s10)]) <|
        .call 42 0 [(.int .u8 i2), (.buf 5 s10)] fun o =>
          outT o42x0 o (fun (s14 : List UInt8) =>
          .nm (Go.IntKind.wrap .i64 (i1 + (1 : Int))) fun (r15 : Int) =>
          .need ([(List.length l9), (List.length s14)] = [(List.length l9), (List.length s14)]) <|
          .jump 1 [(.int .i64 (-(1 : Int))), (.int .i64 r15), (.str s7), (.int .i64 i8), (.sl l9), (.buf 5 s14)])
           (.fail))
        (.need ([(List.length l9), (List.length s10)] = [(List.length l9), (List.length s10)]) <|
        .jump 6 [(.int .i64 i0), (.int .i64 i1), (.int .u8 i2), (.bool b3), (.bool b4), (.bool b5), (.bool b6), (.bool b13), (.str s7), (.int .i64 i8), (.sl l9), (.buf 5 s10)]))
      (.need ([(List.length l9), (List.length s10)] = [(List.length l9), (List.length s10)]) <|
      .jump 6 [(.int .i64 i0), (.int .i64 i1), (.int .u8 i2), (.bool b3), (.bool b4), (.bool b5), (.bool b6), (.bool Bool.false), (.str s7), (.int .i64 i8), (.sl l9), (.buf 5 s10)]))
    (.need ([(List.length l9), (List.length s10)] = [(List.length l9), (List.length s10)]) <|
    .jump 6 [(.int .i64 i0), (.int .i64 i1), (.int .u8 i2), (.bool b3), (.bool b4), (.bool b5), (.bool b6), (.bool Bool.false), (.str s7), (.int .i64 i8), (.sl l9), (.buf 5 s10)])
set_option maxRecDepth 20000 in
theorem e62x5 (call : CallFn) (i0 : Int) (i1 : Int) (i2 : Int) (b3 : Bool) (b4 : Bool) (b5 : Bool) (b6 : Bool) (s7 : List UInt8) (i8 : Int) (l9 : List AV) (s10 : List UInt8) : lay.tree call 62 d62 5 [(.int .i64 i0), (.int .i64 i1), (.int .u8 i2), (.bool b3), (.bool b4), (.bool b5), (.bool b6), (.str s7), (.int .i64 i8), (.sl l9), (.buf 5 s10)] = t62x5 i0 i1 i2 b3 b4 b5 b6 s7 i8 l9 s10 := by kernel_rfl
noncomputable def t62x6 (i0 : Int) (i1 : Int) (i2 : Int) (b3 : Bool) (b4 : Bool) (b5 : Bool) (b6 : Bool) (b7 : Bool) (s8 : List UInt8) (i9 : Int) (l10 : List AV) (s11 : List UInt8) : Tree :=
  .nm (i2 == (47 : Int)) fun (b12 : Bool) =>
  .ite b12 (.nm (decide (i0 < (0 : Int))) fun (b13 : Bool) =>
    .ite b13 (.need ([(List.length s11)] = [(List.length s11)]) <|
      .call 44 0 [(.buf 5 s11)] fun o =>
        outT o44x0 o (fun (s14 : List UInt8) (s15 : List UInt8) =>
        .nm (Go.IntKind.wrap .i64 (i1 + (1 : Int))) fun (r16 : Int) =>
        .nm (Go.IntKind.wrap .i64 (r16 - i9)) fun (r17 : Int) =>
        .need ((AV.lows 0 l10) = Bool.true) <|
        .need ([(List.length l10)] = [(List.length l10)]) <|
        .call 34 0 [(.int .i64 (4 : Int)), (.str s14), (.int .i64 r17), (.str s8), (.int .i64 i9), (.sl l10)] fun o =>
          outT o34x0 o (fun (i21 : Int) (i22 : Int) (s23 : List UInt8) (i24 : Int) (l25 : List AV) =>
          .need ((AV.lows 0 l25) = Bool.true) <|
          .need ((((.int .i64 i9), .no) : SV) = ((.int .i64 i9), .no)) <|
          .done ((.panic (.iface 45 (.agg [(.int .i64 i21), (.int .i64 i22)]))), ⟨[[((.str s23), .no), ((.int .i64 i24), .no), ((.sl l25), (.tok 0))]], [(List.length l25)]⟩))
           (outT o34x1 o (fun (s18 : List UInt8) (i19 : Int) (l20 : List AV) =>
          .need ((AV.lows 0 l20) = Bool.true) <|
          .need ((((.int .i64 i9), .no) : SV) = ((.int .i64 i9), .no)) <|
          .done ((.ret ((.tup []), (.agg []))), ⟨[[((.str s18), .no), ((.int .i64 i19), .no), ((.sl l20), (.tok 0))]], [(List.length l20)]⟩))
           (.fail)))
         (.fail))
      (.need ([(List.length s11)] = [(List.length s11)]) <|
      .call 42 0 [(.int .u8 i2), (.buf 5 s11)] fun o =>
        outT o42x0 o (fun (s26 : List UInt8) =>
        .nm (Go.IntKind.wrap .i64 (i1 + (1 : Int))) fun (r27 : Int) =>
        .need ([(List.length l10), (List.length s26)] = [(List.length l10), (List.length s26)]) <|
        .jump 1 [(.int .i64 i0), (.int .i64 r27), (.str s8), (.int .i64 i9), (.sl l10), (.buf 5 s26)])
         (.fail)))
    (.need ([(List.length s11)] = [(List.length s11)]) <|
    .call 42 0 [(.int .u8 i2), (.buf 5 s11)] fun o =>
      outT o42x0 o (fun (s28 : List UInt8) =>
      .nm (Go.IntKind.wrap .i64 (i1 + (1 : Int))) fun (r29 : Int) =>
      .need ([(List.length l10), (List.length s28)] = [(List.length l10), (List.length s28)]) <|
      .jump 1 [(.int .i64 i0), (.int .i64 r29), (.str s8), (.int .i64 i9), (.sl l10), (.buf 5 s28)])
       (.fail))
set_option maxRecDepth 20000 in
theorem e62x6 (call : CallFn) (i0 : Int) (i1 : Int) (i2 : Int) (b3 : Bool) (b4 : Bool) (b5 : Bool) (b6 : Bool) (b7 : Bool) (s8 : List UInt8) (i9 : Int) (l10 : List AV) (s11 : List UInt8) : lay.tree call 62 d62 6 [(.int .i64 i0), (.int .i64 i1), (.int .u8 i2), (.bool b3), (.bool b4), (.bool b5), (.bool b6), (.bool b7), (.str s8), (.int .i64 i9), (.sl l10), (.buf 5 s11)] = t62x6 i0 i1 i2 b3 b4 b5 b6 b7 s8 i9 l10 s11 := by kernel_rfl
theorem s62x0 (i0 : Int) (i1 : Int) (s2 : List UInt8) (i3 : Int) (l4 : List AV) (g : Int → Int → List UInt8 → Int → List AV → Tree) (els : Tree) : outT o62x0 ((.panic (.iface 45 (.agg [(.int .i64 i0), (.int .i64 i1)]))), ⟨[[((.str s2), .no), ((.int .i64 i3), .no), ((.sl l4), (.tok 0))]], [(List.length l4)]⟩) g els = .need ([(List.length l4)] = [(List.length l4)]) (g i0 i1 s2 i3 l4) := rfl
theorem s62x1 (s0 : List UInt8) (i1 : Int) (l2 : List AV) (g : List UInt8 → Int → List AV → Tree) (els : Tree) : outT o62x1 ((.ret ((.tup []), (.agg []))), ⟨[[((.str s0), .no), ((.int .i64 i1), .no), ((.sl l2), (.tok 0))]], [(List.length l2)]⟩) g els = .need ([(List.length l2)] = [(List.length l2)]) (g s0 i1 l2) := rfl
theorem n62x0x1 (s0 : List UInt8) (i1 : Int) (l2 : List AV) (g : Int → Int → List UInt8 → Int → List AV → Tree) (els : Tree) : outT o62x0 ((.ret ((.tup []), (.agg []))), ⟨[[((.str s0), .no), ((.int .i64 i1), .no), ((.sl l2), (.tok 0))]], [(List.length l2)]⟩) g els = els := rfl
/-! (*auklet/lex.reader).sign -/
noncomputable def t63x0 (s0 : List UInt8) (i1 : Int) (l2 : List AV) : Tree :=
  .need (inLo i1 (List.length s0)) <|
  .nm (((List.length (List.drop (Int.toNat i1) (List.take (List.length s0) s0))) : Nat) : Int) fun (r3 : Int) =>
  .nm (decide (r3 > (1 : Int))) fun (b4 : Bool) =>
  .ite b4 (.bind (byteAt (List.drop (Int.toNat i1) (List.take (List.length s0) s0)) (0 : Int)) fun (r5 : Int) =>
    .nm (r5 != (32 : Int)) fun (b6 : Bool) =>
    .ite b6 (.need ((44 < 4294967281) ∧ (∀ (b : UInt8), ((List.Mem b ([43, 43, 32, 45, 45, 32, 43, 61, 32, 45, 61, 32, 42, 61, 32, 47, 61, 32, 37, 61, 32, 61, 61, 32, 33, 61, 32, 60, 61, 32, 62, 61, 32, 62, 62, 32, 33, 126, 32, 38, 38, 32, 124, 124] : List UInt8)) → ((UInt8.toNat b) < 128)))) <|
      .nm [(.str ([43, 43] : List UInt8)), (.str ([45, 45] : List UInt8)), (.str ([43, 61] : List UInt8)), (.str ([45, 61] : List UInt8)), (.str ([42, 61] : List UInt8)), (.str ([47, 61] : List UInt8)), (.str ([37, 61] : List UInt8)), (.str ([61, 61] : List UInt8)), (.str ([33, 61] : List UInt8)), (.str ([60, 61] : List UInt8)), (.str ([62, 61] : List UInt8)), (.str ([62, 62] : List UInt8)), (.str ([33, 126] : List UInt8)), (.str ([38, 38] : List UInt8)), (.str ([124, 124] : List UInt8))] fun (c7 : List AV) =>
      .need ((AV.lows 0 c7) = Bool.true) <|
      .need (inLo (2 : Int) (List.length (List.drop (Int.toNat i1) (List.take (List.length s0) s0)))) <|
      .need ((AV.lows 0 c7) = Bool.true) <|
      .call 81 0 [(.sl c7), (.str (List.drop 0 (List.take (Int.toNat (2 : Int)) (List.drop (Int.toNat i1) (List.take (List.length s0) s0)))))] fun o =>
        outT o81x0 o (fun (b8 : Bool) =>
        .ite b8 (.need (inLo (2 : Int) (List.length (List.drop (Int.toNat i1) (List.take (List.length s0) s0)))) <|
          .need ((AV.lows 0 l2) = Bool.true) <|
          .need ([(List.length l2)] = [(List.length l2)]) <|
          .call 34 0 [(.int .i64 (9 : Int)), (.str (List.drop 0 (List.take (Int.toNat (2 : Int)) (List.drop (Int.toNat i1) (List.take (List.length s0) s0))))), (.int .i64 (2 : Int)), (.str s0), (.int .i64 i1), (.sl l2)] fun o =>
            outT o34x0 o (fun (i12 : Int) (i13 : Int) (s14 : List UInt8) (i15 : Int) (l16 : List AV) =>
            .need ((AV.lows 0 l16) = Bool.true) <|
            .done ((.panic (.iface 45 (.agg [(.int .i64 i12), (.int .i64 i13)]))), ⟨[[((.str s14), .no), ((.int .i64 i15), .no), ((.sl l16), (.tok 0))]], [(List.length l16)]⟩))
             (outT o34x1 o (fun (s9 : List UInt8) (i10 : Int) (l11 : List AV) =>
            .need ((AV.lows 0 l11) = Bool.true) <|
            .done ((.ret ((.tup []), (.agg []))), ⟨[[((.str s9), .no), ((.int .i64 i10), .no), ((.sl l11), (.tok 0))]], [(List.length l11)]⟩))
             (.fail)))
          (.bind (byteAt (List.drop (Int.toNat i1) (List.take (List.length s0) s0)) (0 : Int)) fun (r17 : Int) =>
          .call 54 0 [(.str ([123, 125, 40, 41, 91, 93, 59, 44, 43, 45, 42, 47, 37, 60, 62, 33, 126, 63, 58, 61, 36] : List UInt8)), (.int .u8 r17)] fun o =>
            outT o54x0 o (fun (i18 : Int) =>
            .nm (decide (i18 < (0 : Int))) fun (b19 : Bool) =>
            .ite b19 (.need ((AV.lows 0 l2) = Bool.true) <|
              .need ([(List.length l2)] = [(List.length l2)]) <|
              .call 64 0 [(.int .i64 (4 : Int)), (.str s0), (.int .i64 i1), (.sl l2)] fun o =>
                outT o64x0 o (fun (i20 : Int) (i21 : Int) (s22 : List UInt8) (i23 : Int) (l24 : List AV) =>
                .need ((AV.lows 0 l24) = Bool.true) <|
                .done ((.panic (.iface 45 (.agg [(.int .i64 i20), (.int .i64 i21)]))), ⟨[[((.str s22), .no), ((.int .i64 i23), .no), ((.sl l24), (.tok 0))]], [(List.length l24)]⟩))
                 (.fail))
              (.need (inLo (1 : Int) (List.length (List.drop (Int.toNat i1) (List.take (List.length s0) s0)))) <|
              .need ((AV.lows 0 l2) = Bool.true) <|
              .need ([(List.length l2)] = [(List.length l2)]) <|
              .call 34 0 [(.int .i64 (9 : Int)), (.str (List.drop 0 (List.take (Int.toNat (1 : Int)) (List.drop (Int.toNat i1) (List.take (List.length s0) s0))))), (.int .i64 (1 : Int)), (.str s0), (.int .i64 i1), (.sl l2)] fun o =>
                outT o34x0 o (fun (i28 : Int) (i29 : Int) (s30 : List UInt8) (i31 : Int) (l32 : List AV) =>
                .need ((AV.lows 0 l32) = Bool.true) <|
                .done ((.panic (.iface 45 (.agg [(.int .i64 i28), (.int .i64 i29)]))), ⟨[[((.str s30), .no), ((.int .i64 i31), .no), ((.sl l32), (.tok 0))]], [(List.length l32)]⟩))
                 (outT o34x1 o (fun (s25 : List UInt8) (i26 : Int) (l27 : List AV) =>
                .need ((AV.lows 0 l27) = Bool.true) <|
                .done ((.ret ((.tup []), (.agg []))), ⟨[[((.str s25), .no), ((.int .i64 i26), .no), ((.sl l27), (.tok 0))]], [(List.length l27)]⟩))
                 (.fail))))
             (.fail)))
         (.fail))
      (.bind (byteAt (List.drop (Int.toNat i1) (List.take (List.length s0) s0)) (0 : Int)) fun (r33 : Int) =>
      .call 54 0 [(.str ([123, 125, 40, 41, 91, 93, 59, 44, 43, 45, 42, 47, 37, 60, 62, 33, 126, 63, 58, 61, 36] : List UInt8)), (.int .u8 r33)] fun o =>
        outT o54x0 o (fun (i34 : Int) =>
        .nm (decide (i34 < (0 : Int))) fun (b35 : Bool) =>
        .ite b35 (.need ((AV.lows 0 l2) = Bool.true) <|
          .need ([(List.length l2)] = [(List.length l2)]) <|
          .call 64 0 [(.int .i64 (4 : Int)), (.str s0), (.int .i64 i1), (.sl l2)] fun o =>
            outT o64x0 o (fun (i36 : Int) (i37 : Int) (s38 : List UInt8) (i39 : Int) (l40 : List AV) =>
            .need ((AV.lows 0 l40) = Bool.true) <|
            .done ((.panic (.iface 45 (.agg [(.int .i64 i36), (.int .i64 i37)]))), ⟨[[((.str s38), .no), ((.int .i64 i39), .no), ((.sl l40), (.tok 0))]], [(List.length l40)]⟩))
             (.fail))
          (.need (inLo (1 : Int) (List.length (List.drop (Int.toNat i1) (List.take (List.length s0) s0)))) <|
          .need ((AV.lows 0 l2) = Bool.true) <|
          .need ([(List.length l2)] = [(List.length l2)]) <|
          .call 34 0 [(.int .i64 (9 : Int)), (.str (List.drop 0 (List.take (Int.toNat (1 : Int)) (List.drop (Int.toNat i1) (List.take (List.length s0) s0))))), (.int .i64 (1 : Int)), (.str s0), (.int .i64 i1), (.sl l2)] fun o =>
            outT o34x0 o (fun (i44 : Int) (i45 : Int) (s46 : List UInt8) (i47 : Int) (l48 : List AV) =>
            .need ((AV.lows 0 l48) = Bool.true) <|
            .done ((.panic (.iface 45 (.agg [(.int .i64 i44), (.int .i64 i45)]))), ⟨[[((.str s46), .no), ((.int .i64 i47), .no), ((.sl l48), (.tok 0))]], [(List.length l48)]⟩))
             (outT o34x1 o (fun (s41 : List UInt8) (i42 : Int) (l43 : List AV) =>
            .need ((AV.lows 0 l43) = Bool.true) <|
            .done ((.ret ((.tup []), (.agg []))), ⟨[[((.str s41), .no), ((.int .i64 i42), .no), ((.sl l43), (.tok 0))]], [(List.length l43)]⟩))
             (.fail))))
         (.fail)))
    (.bind (byteAt (List.drop (Int.toNat i1) (List.take (List.length s0) s0)) (0 : Int)) fun (r49 : Int) =>
    .call 54 0 [(.str ([123, 125, 40, 41, 91, 93, 59, 44, 43, 45, 42, 47, 37, 60, 62, 33, 126, 63, 58, 61, 36] : List UInt8)), (.int .u8 r49)] fun o =>
      outT o54x0 o (fun (i50 : Int) =>
      .nm (decide (i50 < (0 : Int))) fun (b51 : Bool) =>
      .ite b51 (.need ((AV.lows 0 l2) = Bool.true) <|
        .need ([(List.length l2)] = [(List.length l2)]) <|
        .call 64 0 [(.int .i64 (4 : Int)), (.str s0), (.int .i64 i1), (.sl l2)] fun o =>
          outT o64x0 o (fun (i52 : Int) (i53 : Int) (s54 : List UInt8) (i55 : Int) (l56 : List AV) =>
          .need ((AV.lows 0 l56) = Bool.true) <|
          .done ((.panic (.iface 45 (.agg [(.int .i64 i52), (.int .i64 i53)]))), ⟨[[((.str s54), .no), ((.int .i64 i55), .no), ((.sl l56), (.tok 0))]], [(List.length l56)]⟩))
           (.fail))
        (.need (inLo (1 : Int) (List.length (List.drop (Int.toNat i1) (List.take (List.length s0) s0)))) <|
        .need ((AV.lows 0 l2) = Bool.true) <|
        .need ([(List.length l2)] = [(List.length l2)]) <|
        .call 34 0 [(.int .i64 (9 : Int)), (.str (List.drop 0 (List.take (Int.toNat (1 : Int)) (List.drop (Int.toNat i1) (List.take (List.length s0) s0))))), (.int .i64 (1 : Int)), (.str s0), (.int .i64 i1), (.sl l2)] fun o =>
          outT o34x0 o (fun (i60 : Int) (i61 : Int) (s62 : List UInt8) (i63 : Int) (l64 : List AV) =>
          .need ((AV.lows 0 l64) = Bool.true) <|
          .done ((.panic (.iface 45 (.agg [(.int .i64 i60), (.int .i64 i61)]))), ⟨[[((.str s62), .no), ((.int .i64 i63), .no), ((.sl l64), (.tok 0))]], [(List.length l64)]⟩))
           (outT o34x1 o (fun (s57 : List UInt8) (i58 : Int) (l59 : List AV) =>
          .need ((AV.lows 0 l59) = Bool.true) <|
          .done ((.ret ((.tup []), (.agg []))), ⟨[[((.str s57), .no), ((.int .i64 i58), .no), ((.sl l59), (.tok 0))]], [(List.length l59)]⟩))
           (.fail))))
       (.fail))
set_option maxRecDepth 20000 in
theorem e63x0 (call : CallFn) (s0 : List UInt8) (i1 : Int) (l2 : List AV) : lay.tree call 63 d63 0 [(.str s0), (.int .i64 i1), (.sl l2)] = t63x0 s0 i1 l2 := by kernel_rfl
theorem s63x0 (s0 : List UInt8) (i1 : Int) (l2 : List AV) (g : List UInt8 → Int → List AV → Tree) (els : Tree) : outT o63x0 ((.ret ((.tup []), (.agg []))), ⟨[[((.str s0), .no), ((.int .i64 i1), .no), ((.sl l2), (.tok 0))]], [(List.length l2)]⟩) g els = .need ([(List.length l2)] = [(List.length l2)]) (g s0 i1 l2) := rfl
theorem s63x1 (i0 : Int) (i1 : Int) (s2 : List UInt8) (i3 : Int) (l4 : List AV) (g : Int → Int → List UInt8 → Int → List AV → Tree) (els : Tree) : outT o63x1 ((.panic (.iface 45 (.agg [(.int .i64 i0), (.int .i64 i1)]))), ⟨[[((.str s2), .no), ((.int .i64 i3), .no), ((.sl l4), (.tok 0))]], [(List.length l4)]⟩) g els = .need ([(List.length l4)] = [(List.length l4)]) (g i0 i1 s2 i3 l4) := rfl
theorem n63x0x1 (i0 : Int) (i1 : Int) (s2 : List UInt8) (i3 : Int) (l4 : List AV) (g : List UInt8 → Int → List AV → Tree) (els : Tree) : outT o63x0 ((.panic (.iface 45 (.agg [(.int .i64 i0), (.int .i64 i1)]))), ⟨[[((.str s2), .no), ((.int .i64 i3), .no), ((.sl l4), (.tok 0))]], [(List.length l4)]⟩) g els = els := rfl
/-! (*auklet/lex.reader).fail -/
noncomputable def t64x0 (i0 : Int) (s1 : List UInt8) (i2 : Int) (l3 : List AV) : Tree :=
  .done ((.panic (.iface 45 (.agg [(.int .i64 i2), (.int .i64 i0)]))), ⟨[[((.str s1), .no), ((.int .i64 i2), .no), ((.sl l3), (.tok 0))]], [(List.length l3)]⟩)
set_option maxRecDepth 20000 in
theorem e64x0 (call : CallFn) (i0 : Int) (s1 : List UInt8) (i2 : Int) (l3 : List AV) : lay.tree call 64 d64 0 [(.int .i64 i0), (.str s1), (.int .i64 i2), (.sl l3)] = t64x0 i0 s1 i2 l3 := by kernel_rfl
theorem s64x0 (i0 : Int) (i1 : Int) (s2 : List UInt8) (i3 : Int) (l4 : List AV) (g : Int → Int → List UInt8 → Int → List AV → Tree) (els : Tree) : outT o64x0 ((.panic (.iface 45 (.agg [(.int .i64 i0), (.int .i64 i1)]))), ⟨[[((.str s2), .no), ((.int .i64 i3), .no), ((.sl l4), (.tok 0))]], [(List.length l4)]⟩) g els = .need ([(List.length l4)] = [(List.length l4)]) (g i0 i1 s2 i3 l4) := rfl
/-! internal/stringslite.IndexByte -/
noncomputable def t78x0 (s0 : List UInt8) (i1 : Int) : Tree :=
  .nm (Go.Lib.indexByte s0 (Nat.toUInt8 (Int.toNat i1))) fun (r2 : Int) =>
  .done ((.ret ((.int .i64 r2), .no)), ⟨[], ([] : List Nat)⟩)
set_option maxRecDepth 20000 in
theorem e78x0 (call : CallFn) (s0 : List UInt8) (i1 : Int) : lay.tree call 78 d78 0 [(.str s0), (.int .u8 i1)] = t78x0 s0 i1 := by kernel_rfl
theorem s78x0 (i0 : Int) (g : Int → Tree) (els : Tree) : outT o78x0 ((.ret ((.int .i64 i0), .no)), ⟨[], ([] : List Nat)⟩) g els = .need (([] : List Nat) = ([] : List Nat)) (g i0) := rfl
/-! internal/stringslite.HasPrefix -/
noncomputable def t79x0 (s0 : List UInt8) (s1 : List UInt8) : Tree :=
  .nm (((List.length s0) : Nat) : Int) fun (r2 : Int) =>
  .nm (((List.length s1) : Nat) : Int) fun (r3 : Int) =>
  .nm (decide (r2 ≥ r3)) fun (b4 : Bool) =>
  .ite b4 (.nm (((List.length s1) : Nat) : Int) fun (r5 : Int) =>
    .need (inLo r5 (List.length s0)) <|
    .nm ((List.drop 0 (List.take (Int.toNat r5) s0)) == s1) fun (b6 : Bool) =>
    .done ((.ret ((.bool b6), .no)), ⟨[], ([] : List Nat)⟩))
    (.done ((.ret ((.bool Bool.false), .no)), ⟨[], ([] : List Nat)⟩))
set_option maxRecDepth 20000 in
theorem e79x0 (call : CallFn) (s0 : List UInt8) (s1 : List UInt8) : lay.tree call 79 d79 0 [(.str s0), (.str s1)] = t79x0 s0 s1 := by kernel_rfl
theorem s79x0 (b0 : Bool) (g : Bool → Tree) (els : Tree) : outT o79x0 ((.ret ((.bool b0), .no)), ⟨[], ([] : List Nat)⟩) g els = .need (([] : List Nat) = ([] : List Nat)) (g b0) := rfl
/-! auklet/lex.stroke -/
noncomputable def t80x0 (i0 : Int) : Tree :=
  .nm (i0 == (110 : Int)) fun (b1 : Bool) =>
  .ite b1 (.done ((.ret ((.str ([10] : List UInt8)), .no)), ⟨[], ([] : List Nat)⟩))
    (.nm (i0 == (116 : Int)) fun (b2 : Bool) =>
    .ite b2 (.done ((.ret ((.str ([9] : List UInt8)), .no)), ⟨[], ([] : List Nat)⟩))
      (.nm (i0 == (92 : Int)) fun (b3 : Bool) =>
      .ite b3 (.ite b3 (.nm ([(UInt8.ofNat (Int.toNat i0))] : List UInt8) fun (s4 : List UInt8) =>
          .done ((.ret ((.str s4), .no)), ⟨[], ([] : List Nat)⟩))
          (.nm ([(UInt8.ofNat (Int.toNat (92 : Int))), (UInt8.ofNat (Int.toNat i0))] : List UInt8) fun (s5 : List UInt8) =>
          .done ((.ret ((.str s5), .no)), ⟨[], ([] : List Nat)⟩)))
        (.nm (i0 == (34 : Int)) fun (b6 : Bool) =>
        .ite b6 (.ite b6 (.nm ([(UInt8.ofNat (Int.toNat i0))] : List UInt8) fun (s7 : List UInt8) =>
            .done ((.ret ((.str s7), .no)), ⟨[], ([] : List Nat)⟩))
            (.nm ([(UInt8.ofNat (Int.toNat (92 : Int))), (UInt8.ofNat (Int.toNat i0))] : List UInt8) fun (s8 : List UInt8) =>
            .done ((.ret ((.str s8), .no)), ⟨[], ([] : List Nat)⟩)))
          (.nm (i0 == (47 : Int)) fun (b9 : Bool) =>
          .ite b9 (.nm ([(UInt8.ofNat (Int.toNat i0))] : List UInt8) fun (s10 : List UInt8) =>
            .done ((.ret ((.str s10), .no)), ⟨[], ([] : List Nat)⟩))
            (.nm ([(UInt8.ofNat (Int.toNat (92 : Int))), (UInt8.ofNat (Int.toNat i0))] : List UInt8) fun (s11 : List UInt8) =>
            .done ((.ret ((.str s11), .no)), ⟨[], ([] : List Nat)⟩))))))
set_option maxRecDepth 20000 in
theorem e80x0 (call : CallFn) (i0 : Int) : lay.tree call 80 d80 0 [(.int .u8 i0)] = t80x0 i0 := by kernel_rfl
theorem s80x0 (s0 : List UInt8) (g : List UInt8 → Tree) (els : Tree) : outT o80x0 ((.ret ((.str s0), .no)), ⟨[], ([] : List Nat)⟩) g els = .need (([] : List Nat) = ([] : List Nat)) (g s0) := rfl
/-! slices.Contains[[]string,string] -/
noncomputable def t81x0 (l0 : List AV) (s1 : List UInt8) : Tree :=
  .need ((AV.lows 0 l0) = Bool.true) <|
  .call 94 0 [(.sl l0), (.str s1)] fun o =>
    outT o94x0 o (fun (i2 : Int) =>
    .nm (decide (i2 ≥ (0 : Int))) fun (b3 : Bool) =>
    .done ((.ret ((.bool b3), .no)), ⟨[], ([] : List Nat)⟩))
     (.fail)
set_option maxRecDepth 20000 in
theorem e81x0 (call : CallFn) (l0 : List AV) (s1 : List UInt8) : lay.tree call 81 d81 0 [(.sl l0), (.str s1)] = t81x0 l0 s1 := by kernel_rfl
theorem s81x0 (b0 : Bool) (g : Bool → Tree) (els : Tree) : outT o81x0 ((.ret ((.bool b0), .no)), ⟨[], ([] : List Nat)⟩) g els = .need (([] : List Nat) = ([] : List Nat)) (g b0) := rfl
/-! slices.Index[[]string,string] -/
noncomputable def t94x0 (l0 : List AV) (s1 : List UInt8) : Tree :=
  .nm (((List.length l0) : Nat) : Int) fun (r2 : Int) =>
  .jump 1 [(.sl l0), (.str s1), (.int .i64 r2), (.int .i64 (0 : Int))]
set_option maxRecDepth 20000 in
theorem e94x0 (call : CallFn) (l0 : List AV) (s1 : List UInt8) : lay.tree call 94 d94 0 [(.sl l0), (.str s1)] = t94x0 l0 s1 := by kernel_rfl
noncomputable def t94x1 (l0 : List AV) (s1 : List UInt8) (i2 : Int) (i3 : Int) : Tree :=
  .nm (decide (i3 < i2)) fun (b4 : Bool) =>
  .ite b4 (.opn [.str] (elemAt l0 i3) <| fun (s5 : List UInt8) =>
    .nm (s1 == s5) fun (b6 : Bool) =>
    .ite b6 (.done ((.ret ((.int .i64 i3), .no)), ⟨[], ([] : List Nat)⟩))
      (.nm (Go.IntKind.wrap .i64 (i3 + (1 : Int))) fun (r7 : Int) =>
      .jump 1 [(.sl l0), (.str s1), (.int .i64 i2), (.int .i64 r7)]))
    (.done ((.ret ((.int .i64 (-(1 : Int))), .no)), ⟨[], ([] : List Nat)⟩))
set_option maxRecDepth 20000 in
theorem e94x1 (call : CallFn) (l0 : List AV) (s1 : List UInt8) (i2 : Int) (i3 : Int) : lay.tree call 94 d94 1 [(.sl l0), (.str s1), (.int .i64 i2), (.int .i64 i3)] = t94x1 l0 s1 i2 i3 := by kernel_rfl
theorem s94x0 (i0 : Int) (g : Int → Tree) (els : Tree) : outT o94x0 ((.ret ((.int .i64 i0), .no)), ⟨[], ([] : List Nat)⟩) g els = .need (([] : List Nat) = ([] : List Nat)) (g i0) := rfl
end Go.Proofs.YtdiphholophdcaaDoor.T
end
section
open Go Go.Ab
namespace Go.Proofs.YtdiphholophdcaaDoor.T
variable {K : Out → Prop}
def isLetter (c : Int) : Bool := (decide (65 ≤ c) && decide (c ≤ 90)) || (decide (97 ≤ c) && decide (c ≤ 122)) || decide (c = 95)
def isDigit (c : Int) : Bool := decide (48 ≤ c) && decide (c ≤ 57)
theorem letter_wp {c : Int} (h : K (.ret (.bool (isLetter c), .no), ⟨[], []⟩)) : lay.Wp 37 0 [.int .u8 c] K := by
  refine Lay.wp_of h37 (fun call => e37x0 call c) ?_
  unfold t37x0
  simp only [tw_nm, tw_ite, tw_done, decide_eq_true_eq]
  repeat' split
  all_goals first
    | (have : isLetter c = true := by unfold isLetter; simp; omega
       rw [this] at h; exact h)
    | (have : isLetter c = (c == 95) := by rw [Bool.eq_iff_iff]; simp [isLetter]; omega
       rw [this] at h; exact h)
theorem digit_wp {c : Int} (h : K (.ret (.bool (isDigit c), .no), ⟨[], []⟩)) : lay.Wp 58 0 [.int .u8 c] K := by
  refine Lay.wp_of h58 (fun call => e58x0 call c) ?_
  unfold t58x0
  simp only [tw_nm, tw_ite, tw_done, decide_eq_true_eq]
  repeat' split
  all_goals first
    | (have : isDigit c = decide (c ≤ 57) := by unfold isDigit; simp; omega
       rw [this] at h; exact h)
    | (have : isDigit c = false := by unfold isDigit; simp; omega
       rw [this] at h; exact h)
theorem writeByte_wp {c : Int} {s : List UInt8} (hc : 0 ≤ c ∧ c < 256) (hs : s.length + 1 ≤ Ab.maxLen) (h : K (.ret (.nili, .no), ⟨[[(.bself 59 0, .no), (.buf 5 (s ++ [UInt8.ofNat c.toNat]), .tok 0)]], [(s ++ [UInt8.ofNat c.toNat]).length]⟩)) : lay.Wp 42 0 [.int .u8 c, .buf 5 s] K := by
  refine Lay.wp_of h42 (fun call => e42x0 call c s) ?_
  unfold t42x0
  simp only [tw_need, tw_done, true_and]
  exact ⟨hc, hs, h⟩
theorem writeString_wp {t s : List UInt8} (hs : s.length + t.length ≤ Ab.maxLen) (h : K (.ret (.tup [.int .i64 (t.length : Nat), .nili], .agg [.no, .no]), ⟨[[(.bself 59 0, .no), (.buf 5 (s ++ t), .tok 0)]], [(s ++ t).length]⟩)) : lay.Wp 43 0 [.str t, .buf 5 s] K := by
  refine Lay.wp_of h43 (fun call => e43x0 call t s) ?_
  unfold t43x0
  simp only [tw_need, tw_nm, tw_done, true_and]
  exact ⟨hs, h⟩
theorem bString_wp {s : List UInt8} (hs : s.length ≤ Ab.maxLen) (h : K (.ret (.str s, .no), ⟨[[(.bself 59 0, .no), (.buf 5 s, .tok 0)]], [s.length]⟩)) : lay.Wp 44 0 [.buf 5 s] K := by
  refine Lay.wp_of h44 (fun call => e44x0 call s) ?_
  unfold t44x0
  simp only [tw_need, tw_nm, tw_done, true_and]
  exact ⟨hs, h⟩
/-- how a byte is written in quotes -/
def encQ (b : UInt8) : List UInt8 := if b = 10 then [92, 110] else if b = 9 then [92, 116] else if b = 92 ∨ b = 34 then [92, b] else [b]
theorem encQ_len (b : UInt8) : (encQ b).length ≤ 2 := by
  unfold encQ
  split
  · simp
  · split
    · simp
    · split <;> simp
theorem encQ_pos (b : UInt8) : 1 ≤ (encQ b).length := by
  unfold encQ
  split
  · simp
  · split
    · simp
    · split <;> simp
/-- the rest of a text, written -/
theorem quote_loop (s : List UInt8) (hs : s.length ≤ 3000) : ∀ (n i : Nat) (acc : List UInt8), s.length - i = n → i ≤ s.length → acc.length ≤ 2 * i + 1 → K (.ret (.str (acc ++ (s.drop i).flatMap encQ ++ [34]), .no), ⟨[], []⟩) →
    lay.Wp 17 1 [.slr 1 0 s.length, .int .i64 (s.length : Nat), .int .i64 (i : Nat), .buf 5 acc, .agg ((toBytes s).map (·, Tag.no) |>.map (·.1))] K := by
  intro n
  induction n with
  | zero =>
    intro i acc hn hi hacc h
    have : i = s.length := by omega
    subst this
    refine Lay.wp_of h17 (fun call => e17x1 call _ _ _ _ _) ?_
    unfold t17x1
    simp only [tw_nm, tw_ite, tw_needR, tw_callT, tw_need, true_and]
    rw [if_neg (by simp)]
    refine writeByte_wp (by omega) (by unfold Ab.maxLen; omega) ?_
    simp only [s42x0, tw_needR, tw_need, true_and, tw_callT]
    refine bString_wp (by simp; unfold Ab.maxLen; omega) ?_
    simp only [s44x0, tw_needR, tw_need, true_and, tw_done]
    simpa using h
  | succ n ih =>
    intro i acc hn hi hacc h
    have hlt : i < s.length := by omega
    have hd : s.drop i = s[i] :: s.drop (i + 1) := List.drop_eq_getElem_cons hlt
    have hw : IntKind.wrap .i64 ((i : Int) + 1) = ((i + 1 : Nat) : Int) := by rw [wrap64 (by omega) (by omega)]; omega
    have hb : s[i].toNat < 256 := s[i].toNat_lt
    have hcell : (List.map (fun (x : AV) => ((x, .no) : SV)) (List.map (fun (x : SV) => x.1) (List.map (fun (x : AV) => ((x, .no) : SV)) (toBytes s))))[(0 + (Int.toNat (i : Int)) * 1)]? = some (.int .u8 ((s[i].toNat : Nat) : Int), .no) := by
      simp [toBytes, hlt]
    have hback : List.map (fun (x : SV) => x.1) (List.map (fun (x : AV) => ((x, .no) : SV)) (List.map (fun (x : SV) => x.1) (List.map (fun (x : AV) => ((x, .no) : SV)) (toBytes s)))) = List.map (fun (x : SV) => x.1) (List.map (fun (x : AV) => ((x, .no) : SV)) (toBytes s)) := by
      simp [Function.comp_def]
    -- the next round
    have step : ∀ acc' : List UInt8, acc' = acc ++ encQ s[i] → lay.Wp 17 1 [.slr 1 0 s.length, .int .i64 (s.length : Nat), .int .i64 ((i + 1 : Nat) : Int), .buf 5 acc', .agg ((toBytes s).map (·, Tag.no) |>.map (·.1))] K := by
      rintro acc' rfl
      refine ih (i + 1) _ (by omega) (by omega) (by have := encQ_len s[i]; simp; omega) ?_
      rw [hd, List.flatMap_cons] at h
      simpa only [List.append_assoc] using h
    refine Lay.wp_of h17 (fun call => e17x1 call _ _ _ _ _) ?_
    unfold t17x1
    simp only [tw_nm, tw_ite, tw_needR, tw_callT, tw_need, hcell, hback, hw, Option.bind_some, plain1, tw_opnS, openC_int, openC_nil, tw_jump]
    rw [if_pos (by simp; omega)]
    refine ⟨⟨by omega, by omega⟩, ?_⟩
    have hk : Ab.maxLen = 4294967296 := rfl
    have back := byteBack s[i]
    have e10 := byteEq (b := s[i]) 10 (k := 10) rfl; have e9 := byteEq (b := s[i]) 9 (k := 9) rfl; have e92 := byteEq (b := s[i]) 92 (k := 92) rfl; have e34 := byteEq (b := s[i]) 34 (k := 34) rfl
    by_cases c1 : s[i] = 10
    · rw [if_pos (e10.2 c1)]
      refine ⟨trivial, writeString_wp (by simp; omega) ?_⟩
      simp only [s43x0, tw_needR, tw_need, true_and, tw_nm, tw_jump]
      exact step _ (by rw [c1]; rfl)
    rw [if_neg (fun e => c1 (e10.1 e))]
    by_cases c2 : s[i] = 9
    · rw [if_pos (e9.2 c2)]
      refine ⟨trivial, writeString_wp (by simp; omega) ?_⟩
      simp only [s43x0, tw_needR, tw_need, true_and, tw_nm, tw_jump]
      exact step _ (by rw [c2]; rfl)
    rw [if_neg (fun e => c2 (e9.1 e))]
    have two : (s[i] = 92 ∨ s[i] = 34) → lay.Wp 42 0 [AV.int .u8 92, AV.buf 5 acc] fun o => Tree.wp lay.ev 17 (outT o42x0 o (fun s16 => Tree.need True (Tree.call 42 0 [AV.int .u8 ((s[i].toNat : Nat) : Int), AV.buf 5 s16] fun o => outT o42x0 o (fun s17 => Tree.nm ((i + 1 : Nat) : Int) fun r18 => Tree.need True (Tree.jump 1 [AV.slr 1 0 s.length, AV.int .i64 (s.length : Nat), AV.int .i64 r18, AV.buf 5 s17, AV.agg (List.map (fun x => x.fst) (List.map (fun x => (x, Tag.no)) (toBytes s)))])) Tree.fail)) Tree.fail) K := by
      intro c
      refine writeByte_wp (by omega) (by omega) ?_
      simp only [s42x0, tw_needR, tw_need, true_and, tw_nm, tw_callT]
      refine writeByte_wp (by omega) (by simp; omega) ?_
      simp only [s42x0, tw_needR, tw_need, true_and, tw_nm, tw_jump, back]
      refine step _ ?_
      unfold encQ
      rw [if_neg c1, if_neg c2, if_pos c]
      simp
    by_cases c3 : s[i] = 92
    · rw [if_pos (e92.2 c3), if_pos (e92.2 c3)]
      exact ⟨trivial, two (.inl c3)⟩
    rw [if_neg (fun e => c3 (e92.1 e))]
    by_cases c4 : s[i] = 34
    · rw [if_pos (e34.2 c4)]
      exact ⟨trivial, two (.inr c4)⟩
    rw [if_neg (fun e => c4 (e34.1 e))]
    refine ⟨trivial, writeByte_wp (by omega) (by omega) ?_⟩
    simp only [s42x0, tw_needR, tw_need, true_and, tw_nm, tw_jump, back]
    refine step _ ?_
    unfold encQ
    rw [if_neg c1, if_neg c2, if_neg (by rintro (h | h); exact c3 h; exact c4 h)]
/-- a text in quotes -/
def quoteF (s : List UInt8) : List UInt8 := [34] ++ s.flatMap encQ ++ [34]
theorem quote_wp {s : List UInt8} (hs : s.length ≤ 3000) (h : K (.ret (.str (quoteF s), .no), ⟨[], []⟩)) : lay.Wp 17 0 [.str s] K := by
  refine Lay.wp_of h17 (fun call => e17x0 call s) ?_
  unfold t17x0
  simp only [tw_needR, tw_need, true_and, tw_callT]
  refine writeByte_wp (by omega) (by unfold Ab.maxLen; simp) ?_
  simp only [s42x0, tw_needR, tw_need, true_and, tw_nm, tw_jump]
  exact quote_loop s hs s.length 0 _ rfl (by omega) (by simp) (by simpa [quoteF] using h)
/-! ### a text in quotes is read -/
def tokAV (k : Int) (s : List UInt8) (at_ : Int) : AV := .agg [.int .i64 k, .str s, .int .i64 at_]
/-- a reader: its text, its place, its tokens -/
abbrev rdB (s : List UInt8) (p : Int) (l : List AV) : St := ⟨[[(.str s, .no), (.int .i64 p, .no), (.sl l, .tok 0)]], [l.length]⟩
abbrev rdV (s : List UInt8) (p : Int) (l : List AV) : List AV := [.str s, .int .i64 p, .sl l]
/-- a token is put -/
theorem put_wp {k n p : Int} {t s : List UInt8} {l : List AV} (hl : l.length < 3000) (hlow : AV.lows 0 l = true) (hsz : szOk l 3 = true) (hp : 0 ≤ p ∧ p ≤ 8000) (hn : 0 ≤ n ∧ n ≤ 8000)
    (h : AV.lows 0 (l ++ [tokAV k t p]) = true → szOk (l ++ [tokAV k t p]) 3 = true → K (.ret (.tup [], .agg []), rdB s (p + n) (l ++ [tokAV k t p]))) : lay.Wp 34 0 [.int .i64 k, .str t, .int .i64 n, .str s, .int .i64 p, .sl l] K := by
  refine Lay.wp_of h34 (fun call => e34x0 call _ _ _ _ _ _) ?_
  unfold t34x0
  simp only [tw_nm, tw_ite, tw_needR, tw_need, true_and, tw_done]
  rw [if_neg (by simp; omega), wrap64 (by omega) (by omega)]
  have h1 : AV.lows 0 (l ++ [tokAV k t p]) = true := by
    rw [lows_iff] at hlow ⊢
    intro x hx
    rcases List.mem_append.1 hx with hx | hx
    · exact hlow x hx
    · simp at hx; subst hx; rfl
  have h2 : szOk (l ++ [tokAV k t p]) 3 = true := by
    cases l with
    | nil => rfl
    | cons x xs => exact hsz
  exact ⟨hsz, rfl, by unfold Ab.maxLen; omega, h1, h h1 h2⟩
theorem stroke_wp {c : UInt8} {r : List UInt8} (hr : r = if c = 110 then [10] else if c = 116 then [9] else if c = 92 ∨ c = 34 ∨ c = 47 then [c] else [92, c]) (h : K (.ret (.str r, .no), ⟨[], []⟩)) : lay.Wp 80 0 [.int .u8 (c.toNat : Nat)] K := by
  refine Lay.wp_of h80 (fun call => e80x0 call _) ?_
  unfold t80x0
  simp only [tw_nm, tw_ite, tw_done, byteEq (b := c) 110 (k := 110) rfl, byteEq (b := c) 116 (k := 116) rfl, byteEq (b := c) 92 (k := 92) rfl, byteEq (b := c) 34 (k := 34) rfl, byteEq (b := c) 47 (k := 47) rfl, byteBack]
  subst hr
  repeat' split
  all_goals simp_all
theorem text_loop : ∀ (t pre acc : List UInt8), pre.length + 2 * t.length ≤ 7000 → acc.length ≤ pre.length → 1 ≤ pre.length →
    K (.ret (.tup [], .agg []), rdB (pre ++ t.flatMap encQ ++ [34]) (((pre ++ t.flatMap encQ ++ [34]).length : Nat) : Int) [tokAV 3 (acc ++ t) 0]) →
    lay.Wp 60 1 [.int .i64 ((pre.length : Nat) : Int), .str (pre ++ t.flatMap encQ ++ [34]), .int .i64 0, .sl [], .buf 5 acc] K := by
  intro t
  have hk : Ab.maxLen = 4294967296 := rfl
  induction t with
  | nil =>
    intro pre acc h1 h2 h3 h
    simp only [List.length_nil] at h1
    have w1 : IntKind.wrap .i64 ((pre.length : Nat) + 1 : Int) = (pre.length : Nat) + 1 := wrap64 (by omega) (by omega)
    have w2 : IntKind.wrap .i64 ((pre.length : Nat) + 1 - 0 : Int) = (pre.length : Nat) + 1 := by rw [wrap64 (by omega) (by omega)]; omega
    refine Lay.wp_of h60 (fun call => e60x1 call _ _ _ _ _) ?_
    unfold t60x1
    simp only [List.flatMap_nil, List.append_nil, byteAt_app, tw_nm, tw_ite, tw_bindS, tw_needR, tw_need, true_and, tw_callT] at h ⊢
    rw [if_pos (by simp; omega), if_neg (by decide), if_pos (by decide)]
    refine bString_wp (by omega) ?_
    simp only [s44x0, tw_needR, tw_need, true_and, tw_nm, tw_callT, w1, w2]
    refine ⟨rfl, put_wp (by simp) rfl rfl (by omega) (by omega) fun l1 l2 => ?_⟩
    simp only [n34x0x1, s34x1, tw_needR, tw_need, true_and, tw_done, List.nil_append] at l1 ⊢
    have e : ((pre ++ [34]).length : Int) = (0 : Int) + ((pre.length : Nat) + 1) := by simp
    rw [e] at h
    exact ⟨l1, h⟩
  | cons b t ih =>
    intro pre acc h1 h2 h3 h
    simp only [List.length_cons] at h1
    have w1 : IntKind.wrap .i64 ((pre.length : Nat) + 1 : Int) = ((pre.length + 1 : Nat) : Int) := by rw [wrap64 (by omega) (by omega)]; omega
    have w2 : IntKind.wrap .i64 (((pre.length + 1 : Nat) : Int) + 1) = ((pre.length + 2 : Nat) : Int) := by rw [wrap64 (by omega) (by omega)]; omega
    have q (e : List UInt8) (he : encQ b = e) : pre ++ (b :: t).flatMap encQ ++ [34] = (pre ++ e) ++ t.flatMap encQ ++ [34] := by rw [List.flatMap_cons, he]; simp
    have next (e : List UInt8) (he : encQ b = e) : lay.Wp 60 1 [.int .i64 (((pre ++ e).length : Nat) : Int), .str ((pre ++ e) ++ t.flatMap encQ ++ [34]), .int .i64 0, .sl [], .buf 5 (acc ++ [b])] K := by
      have hl : 1 ≤ e.length ∧ e.length ≤ 2 := by rw [← he]; exact ⟨encQ_pos b, encQ_len b⟩
      refine ih (pre ++ e) (acc ++ [b]) (by simp; omega) (by simp; omega) (by simp; omega) ?_
      rw [q e he] at h
      simpa using h
    -- a byte behind a stroke
    have two (c : UInt8) (hc : encQ b = [92, c]) (hn : c ≠ 10) (hs : [b] = if c = 110 then [10] else if c = 116 then [9] else if c = 92 ∨ c = 34 ∨ c = 47 then [c] else [92, c]) :
        lay.Wp 60 1 [.int .i64 ((pre.length : Nat) : Int), .str (pre ++ (b :: t).flatMap encQ ++ [34]), .int .i64 0, .sl [], .buf 5 acc] K := by
      have nx := next _ hc
      rw [q _ hc]
      have a1 : pre ++ [92, c] ++ t.flatMap encQ ++ [34] = pre ++ 92 :: c :: (t.flatMap encQ ++ [34]) := by simp
      rw [a1] at nx ⊢
      have nl : (pre ++ [92, c]).length = pre.length + 2 := by simp
      rw [nl] at nx
      refine Lay.wp_of h60 (fun call => e60x1 call _ _ _ _ _) ?_
      unfold t60x1
      simp only [byteAt_app, byteAt_app1, w1, tw_nm, tw_ite, tw_bindS, tw_needR, tw_need, true_and, tw_callT]
      rw [if_pos (by simp; omega), if_neg (by decide), if_neg (by decide), if_pos (by decide), if_pos (by simp; omega)]
      refine stroke_wp hs ?_
      simp only [s80x0, tw_needR, tw_need, true_and, tw_callT]
      refine writeString_wp (by simp; omega) ?_
      simp only [s43x0, tw_needR, tw_need, true_and, tw_nm, tw_ite, tw_bindS, byteAt_app1, w2, tw_jump]
      rw [if_neg (by rw [byteEq (b := c) 10 (k := 10) rfl]; exact hn)]
      exact nx
    by_cases c1 : b = 10
    · subst c1; exact two 110 rfl (by decide) rfl
    by_cases c2 : b = 9
    · subst c2; exact two 116 rfl (by decide) rfl
    by_cases c3 : b = 92
    · subst c3; exact two 92 rfl (by decide) rfl
    by_cases c4 : b = 34
    · subst c4; exact two 34 rfl (by decide) rfl
    have hc : encQ b = [b] := by unfold encQ; rw [if_neg c1, if_neg c2, if_neg (by rintro (h | h); exact c3 h; exact c4 h)]
    have nx := next _ hc
    rw [q _ hc]
    have a1 : pre ++ [b] ++ t.flatMap encQ ++ [34] = pre ++ b :: (t.flatMap encQ ++ [34]) := by simp
    rw [a1] at nx ⊢
    have nl : (pre ++ [b]).length = pre.length + 1 := by simp
    rw [nl] at nx
    refine Lay.wp_of h60 (fun call => e60x1 call _ _ _ _ _) ?_
    unfold t60x1
    simp only [byteAt_app, w1, tw_nm, tw_ite, tw_bindS, tw_needR, tw_need, true_and, tw_callT, byteEq (b := b) 10 (k := 10) rfl, byteEq (b := b) 34 (k := 34) rfl, byteEq (b := b) 92 (k := 92) rfl]
    rw [if_pos (by simp; omega), if_neg c1, if_neg c4, if_neg c3]
    refine writeByte_wp (c := ((b.toNat : Nat) : Int)) (by have := b.toNat_lt; omega) (by omega) ?_
    simp only [s42x0, tw_needR, tw_need, true_and, tw_nm, tw_jump, byteBack]
    exact nx
/-! ### the reference's text in quotes -/
theorem refQuote_loop (s : List UInt8) (hs : s.length ≤ 3000) : ∀ (n i : Nat) (acc : List UInt8), s.length - i = n → i ≤ s.length → acc.length ≤ 2 * i + 1 → K (.ret (.str (acc ++ (s.drop i).flatMap encQ ++ [34]), .no), ⟨[], []⟩) →
    lay.Wp 18 1 [.str s, .str acc, .int .i64 ((i : Nat) : Int)] K := by
  intro n
  have hk : Ab.maxStr = 2 ^ 48 := rfl
  induction n with
  | zero =>
    intro i acc hn hi hacc h
    have : i = s.length := by omega
    subst this
    refine Lay.wp_of h18 (fun call => e18x1 call _ _ _) ?_
    unfold t18x1
    simp only [tw_nm, tw_ite, tw_need, tw_done]
    rw [if_neg (by simp)]
    exact ⟨by omega, by simpa using h⟩
  | succ n ih =>
    intro i acc hn hi hacc h
    have hlt : i < s.length := by omega
    have hd : s.drop i = s[i] :: s.drop (i + 1) := List.drop_eq_getElem_cons hlt
    have hw : IntKind.wrap .i64 ((i : Int) + 1) = ((i + 1 : Nat) : Int) := by rw [wrap64 (by omega) (by omega)]; omega
    have hsub : List.drop (Int.toNat (i : Int)) (List.take (Int.toNat ((i + 1 : Nat) : Int)) s) = [s[i]] := by
      rw [Int.toNat_natCast, Int.toNat_natCast, List.take_add_one, List.drop_append, List.getElem?_eq_getElem hlt]
      simp [Nat.min_eq_left (Nat.le_of_lt hlt)]
    have step : ∀ acc' : List UInt8, acc' = acc ++ encQ s[i] → lay.Wp 18 1 [.str s, .str acc', .int .i64 ((i + 1 : Nat) : Int)] K := by
      rintro acc' rfl
      refine ih (i + 1) _ (by omega) (by omega) (by have := encQ_len s[i]; simp; omega) ?_
      rw [hd, List.flatMap_cons] at h
      simpa only [List.append_assoc] using h
    refine Lay.wp_of h18 (fun call => e18x1 call _ _ _) ?_
    unfold t18x1
    simp only [byteAt_nat hlt, hw, hsub, tw_nm, tw_ite, tw_bindS, tw_need, tw_jump, byteEq (b := s[i]) 10 (k := 10) rfl, byteEq (b := s[i]) 9 (k := 9) rfl, byteEq (b := s[i]) 92 (k := 92) rfl, byteEq (b := s[i]) 34 (k := 34) rfl]
    rw [if_pos (by simp; omega)]
    have two : (s[i] = 92 ∨ s[i] = 34) → ¬ s[i] = 10 → ¬ s[i] = 9 → acc ++ [92] ++ [s[i]] = acc ++ encQ s[i] := by
      intro c c1 c2
      unfold encQ
      rw [if_neg c1, if_neg c2, if_pos c]
      simp
    have hin : inLoHi (i : Int) ((i + 1 : Nat) : Int) s.length := ⟨by omega, by omega, by omega⟩
    by_cases c1 : s[i] = 10
    · rw [if_pos c1]
      exact ⟨by omega, step _ (by rw [c1]; rfl)⟩
    rw [if_neg c1]
    by_cases c2 : s[i] = 9
    · rw [if_pos c2]
      exact ⟨by omega, step _ (by rw [c2]; rfl)⟩
    rw [if_neg c2]
    by_cases c3 : s[i] = 92
    · rw [if_pos c3, if_pos c3]
      exact ⟨by omega, hin, by simp; omega, step _ (two (.inl c3) c1 c2)⟩
    rw [if_neg c3]
    by_cases c4 : s[i] = 34
    · rw [if_pos c4]
      exact ⟨by omega, hin, by simp; omega, step _ (two (.inr c4) c1 c2)⟩
    rw [if_neg c4]
    refine ⟨hin, by simp; omega, step _ ?_⟩
    unfold encQ
    rw [if_neg c1, if_neg c2, if_neg (by rintro (h | h); exact c3 h; exact c4 h)]
theorem refQuote_wp {s : List UInt8} (hs : s.length ≤ 3000) (h : K (.ret (.str (quoteF s), .no), ⟨[], []⟩)) : lay.Wp 18 0 [.str s] K := by
  refine Lay.wp_of h18 (fun call => e18x0 call s) ?_
  unfold t18x0
  simp only [tw_jump]
  exact refQuote_loop s hs s.length 0 _ rfl (by omega) (by simp) (by simpa [quoteF] using h)
/-! ### the words of a text in quotes -/
theorem quoteF_eq (s : List UInt8) : quoteF s = 34 :: (s.flatMap encQ ++ [34]) := by simp [quoteF]
theorem flat_len (s : List UInt8) : (s.flatMap encQ).length ≤ 2 * s.length := by
  induction s with
  | nil => simp
  | cons b s ih => have := encQ_len b; simp only [List.flatMap_cons, List.length_append, List.length_cons]; omega
theorem quoteF_len (s : List UInt8) : (quoteF s).length ≤ 2 * s.length + 2 := by
  have := flat_len s
  simp only [quoteF, List.length_append, List.length_cons, List.length_nil]; omega
theorem hasPrefix_wp {s t : List UInt8} (h : K (.ret (.bool (decide (t <+: s)), .no), ⟨[], []⟩)) : lay.Wp 55 0 [.str s, .str t] K := by
  refine Lay.wp_of h55 (fun call => e55x0 call _ _) ?_
  unfold t55x0
  simp only [tw_callT]
  refine Lay.wp_of h79 (fun call => e79x0 call _ _) ?_
  unfold t79x0
  simp only [tw_nm, tw_ite, tw_need, tw_done, s79x0, tw_needR, true_and, List.drop_zero, Int.toNat_natCast]
  by_cases hl : t.length ≤ s.length
  · rw [if_pos (by simp; omega)]
    refine ⟨⟨by omega, by omega⟩, ?_⟩
    have e : (List.take t.length s == t) = decide (t <+: s) := by
      rw [Bool.eq_iff_iff, beq_iff_eq, decide_eq_true_eq, List.prefix_iff_eq_take]
      exact eq_comm
    rw [e]; exact h
  · rw [if_neg (by simp; omega)]
    have e : decide (t <+: s) = false := by
      rw [decide_eq_false_iff_not]
      intro hp; exact hl hp.length_le
    rw [e] at h; exact h
/-- nothing is skipped -/
theorem skip_none {s : List UInt8} {p : Nat} {l : List AV} (hlow : AV.lows 0 l = true) (hp : p = s.length ∨ ∃ h : p < s.length, s[p] = 34) (hlen : s.length ≤ 8000) (h : K (.ret (.tup [], .agg []), rdB s p l)) : lay.Wp 32 0 (rdV s p l) K := by
  refine Lay.wp_of h32 (fun call => e32x0 call _ _ _) ?_
  unfold t32x0
  simp only [tw_need, tw_jump, true_and]
  refine Lay.wp_of h32 (fun call => e32x1 call _ _ _) ?_
  unfold t32x1
  rcases hp with rfl | ⟨hlt, hb⟩
  · simp only [tw_nm, tw_ite, tw_need, tw_done]
    rw [if_neg (by simp)]
    exact h
  · simp only [byteAt_nat hlt, hb, tw_nm, tw_ite, tw_bindS, tw_need, true_and, tw_callT, tw_done]
    rw [if_pos (by simp; omega), if_neg (by decide), if_neg (by decide)]
    refine ⟨⟨by omega, by omega⟩, hasPrefix_wp ?_⟩
    simp only [s55x0, tw_needR, tw_need, true_and, tw_nm, tw_ite, tw_done]
    rw [if_neg (by
      rw [drop_take_all, Int.toNat_natCast, List.drop_eq_getElem_cons hlt, hb]
      simp), if_neg (by decide)]
    exact h
/-- the text's token -/
theorem next_wp {s : List UInt8} (hs : s.length ≤ 3000) (h : K (.ret (.tup [], .agg []), rdB (quoteF s) (((quoteF s).length : Nat) : Int) [tokAV 3 s 0])) : lay.Wp 33 0 (rdV (quoteF s) 0 []) K := by
  have hq := quoteF_eq s
  have hl := quoteF_len s
  have h0 : byteAt (List.drop (Int.toNat 0) (List.take (quoteF s).length (quoteF s))) 0 = some 34 := by
    rw [List.take_length, hq]; rfl
  have w1 : IntKind.wrap .i64 ((0 : Int) + 1) = (([34] : List UInt8).length : Nat) := by rw [wrap64 (by omega) (by omega)]; rfl
  refine Lay.wp_of h33 (fun call => e33x0 call _ _ _) ?_
  unfold t33x0
  simp only [h0, tw_nm, tw_ite, tw_bindS, tw_need, tw_callT]
  refine ⟨⟨by omega, by omega⟩, ?_⟩
  rw [if_neg (by decide)]
  refine letter_wp ?_
  simp only [s37x0, tw_needR, tw_need, true_and, tw_ite, tw_callT]
  rw [if_neg (by decide)]
  refine digit_wp ?_
  simp only [s58x0, tw_needR, tw_need, true_and, tw_nm, tw_ite, tw_callT]
  rw [if_neg (by decide), if_neg (by decide), if_pos (by decide)]
  refine ⟨rfl, ?_⟩
  refine Lay.wp_of h60 (fun call => e60x0 call _ _ _) ?_
  unfold t60x0
  simp only [tw_nm, tw_need, true_and, tw_jump, w1]
  show lay.Wp 60 1 [.int .i64 ((([34] : List UInt8).length : Nat) : Int), .str ([34] ++ s.flatMap encQ ++ [34]), .int .i64 0, .sl [], .buf 5 []] _
  refine text_loop s [34] [] (by simp; omega) (by simp) (by simp) ?_
  simp only [n60x0x1, s60x1,  tw_needR, tw_need, true_and, tw_done, List.nil_append]
  exact ⟨rfl, h⟩
/-- THE WORDS OF A TEXT IN QUOTES -/
theorem words_quote {s : List UInt8} (hs : s.length ≤ 3000) (h : K (.ret (.tup [.sl [tokAV 3 s 0, tokAV 0 [] (((quoteF s).length : Nat) : Int)], .int .i64 0, .int .i64 0], .agg [.no, .no, .no]), ⟨[], []⟩)) : lay.Wp 9 0 [.str (quoteF s)] K := by
  have hl := quoteF_len s
  have hq := quoteF_eq s
  have pos : 0 < (quoteF s).length := by rw [hq]; simp
  refine Lay.wp_of h9 (fun call => e9x0 call _) ?_
  unfold t9x0
  simp only [tw_nm, tw_ite, tw_need, true_and, tw_callT]
  rw [if_neg (by simp; omega)]
  refine ⟨rfl, skip_none (s := quoteF s) (p := 0) rfl (.inr ⟨pos, by simp only [hq]; rfl⟩) (by omega) ?_⟩
  simp only [s32x0, tw_needR, tw_need, true_and, tw_jump]
  refine ⟨rfl, ?_⟩
  -- the round
  refine Lay.wp_of h9 (fun call => e9x1 call _ _ _ _ _ _ _ _) ?_
  unfold t9x1
  simp only [tw_nm, tw_ite, tw_need, true_and, tw_callT]
  rw [if_pos (by simp; omega)]
  refine ⟨rfl, next_wp hs ?_⟩
  simp only [s33x0, n33x0x1, s33x1, tw_needR, tw_need, true_and, tw_callT]
  refine ⟨rfl, rfl, skip_none (s := quoteF s) (p := (quoteF s).length) rfl (.inl rfl) (by omega) ?_⟩
  simp only [s32x0, tw_needR, tw_need, true_and, tw_jump]
  refine ⟨rfl, ?_⟩
  -- the end
  refine Lay.wp_of h9 (fun call => e9x1 call _ _ _ _ _ _ _ _) ?_
  unfold t9x1
  simp only [tw_nm, tw_ite, tw_need, true_and, tw_callT]
  rw [if_neg (by simp)]
  refine ⟨rfl, put_wp (by simp) rfl rfl (by omega) (by omega) fun l1 l2 => ?_⟩
  simp only [n34x0x1, s34x1, tw_needR, tw_need, true_and, tw_nm, tw_ite, tw_done]
  rw [if_neg (by decide)]
  exact ⟨l1, l1, l1, h⟩
/-- THE LAW's PART of LexQuotes -/
theorem lexQuotes_wp (s : List UInt8) : lay.Wp 5 0 [.str s] fun o => o = (.ret (.bool true, .no), ⟨[], []⟩) := by
  refine Lay.wp_of h5 (fun call => e5x0 call s) ?_
  unfold t5x0
  simp only [tw_nm, tw_ite, tw_done, tw_callT]
  by_cases hs : s.length ≤ 3000
  · rw [if_neg (by simp; omega)]
    refine quote_wp hs ?_
    simp only [s17x0, tw_needR, tw_need, true_and, tw_callT]
    refine words_quote hs ?_
    simp only [s9x0, tw_needR, tw_need, true_and, tw_nm, tw_callT]
    refine ⟨by rfl, refQuote_wp hs ?_⟩
    simp only [s18x0, tw_needR, tw_need, true_and, tw_nm, tw_ite, tw_done]
    rw [if_pos (by simp), if_pos (by decide), if_pos (by rfl)]
    have e : elemAt [tokAV 3 s 0, tokAV 0 [] ((quoteF s).length : Nat)] 0 = some [.int .i64 3, .str s, .int .i64 0] := rfl
    simp only [e, tw_opnS, openC_int, openC_str, openC_nil, tw_nm, tw_ite, tw_done]
    rw [if_pos (by simp)]
    trivial
  · rw [if_pos (by simp; omega)]
    trivial
end Go.Proofs.YtdiphholophdcaaDoor.T
end
