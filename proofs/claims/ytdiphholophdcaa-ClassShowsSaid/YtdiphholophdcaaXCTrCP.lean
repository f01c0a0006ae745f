import Derived.Test.YtdiphholophdcaaXCAbT4
import Derived.Lib.IndexAny
import Derived.Lib.Join
import Derived.Lib.Walk
import Derived.WalkKit
import Derived.ProofKit
set_option linter.all false
section
open Go Go.Ab
namespace Go.Proofs.Ytdiphholophdcaa.T
/-! auklet/aukletlaw04.ClassShows -/
noncomputable def t5x0 (i0 : Int) (i1 : Int) (i2 : Int) (i3 : Int) (s4 : List UInt8) (s5 : List UInt8) : Tree :=
  .call 15 0 [(.int .u64 i0), (.int .u64 i1), (.int .u64 i2), (.int .u64 i3)] fun o =>
    outT o15x0 o (fun (s6 : List UInt8) =>
    .nm (((List.length s4) : Nat) : Int) fun (r7 : Int) =>
    .nm (decide (r7 > (1000 : Int))) fun (b8 : Bool) =>
    .ite b8 (.need (inLo (1000 : Int) (List.length s4)) <|
      .need (((List.length (List.drop 0 (List.take (Int.toNat (1000 : Int)) s4))) + (List.length s6)) ≤ maxStr) <|
      .nm ((List.drop 0 (List.take (Int.toNat (1000 : Int)) s4)) ++ s6) fun (s9 : List UInt8) =>
      .need (((List.length s9) + (List.length s5)) ≤ maxStr) <|
      .nm (s9 ++ s5) fun (s10 : List UInt8) =>
      .nm (((List.length (List.drop 0 (List.take (Int.toNat (1000 : Int)) s4))) : Nat) : Int) fun (r11 : Int) =>
      .call 16 0 [(.str s10), (.int .i64 r11)] fun o =>
        outT o16x0 o (fun (i12 : Int) (i13 : Int) (i14 : Int) (i15 : Int) (i16 : Int) (i17 : Int) =>
        .nm i16 fun (r18 : Int) =>
        .nm i17 fun (r19 : Int) =>
        .call 17 0 [(.int .u64 i0), (.int .u64 i1), (.int .u64 i2), (.int .u64 i3)] fun o =>
          outT o17x0 o (fun (s20 : List UInt8) =>
          .nm (s6 == s20) fun (b21 : Bool) =>
          .ite b21 (.nm (Bool.and (i12 == i0) (Bool.and (i13 == i1) (Bool.and (i14 == i2) (Bool.and (i15 == i3) Bool.true)))) fun (b22 : Bool) =>
            .ite b22 (.nm (((List.length (List.drop 0 (List.take (Int.toNat (1000 : Int)) s4))) : Nat) : Int) fun (r23 : Int) =>
              .nm (((List.length s6) : Nat) : Int) fun (r24 : Int) =>
              .nm (Go.IntKind.wrap .i64 (r23 + r24)) fun (r25 : Int) =>
              .nm (r18 == r25) fun (b26 : Bool) =>
              .ite b26 (.nm (r19 == (0 : Int)) fun (b27 : Bool) =>
                .ite b27 (.done ((.ret ((.bool Bool.true), .no)), ⟨[], ([] : List Nat)⟩))
                  (.done ((.ret ((.bool Bool.false), .no)), ⟨[], ([] : List Nat)⟩)))
                (.done ((.ret ((.bool Bool.false), .no)), ⟨[], ([] : List Nat)⟩)))
              (.done ((.ret ((.bool Bool.false), .no)), ⟨[], ([] : List Nat)⟩)))
            (.done ((.ret ((.bool Bool.false), .no)), ⟨[], ([] : List Nat)⟩)))
           (.fail))
         (.fail))
      (.need (((List.length s4) + (List.length s6)) ≤ maxStr) <|
      .nm (s4 ++ s6) fun (s28 : List UInt8) =>
      .need (((List.length s28) + (List.length s5)) ≤ maxStr) <|
      .nm (s28 ++ s5) fun (s29 : List UInt8) =>
      .nm (((List.length s4) : Nat) : Int) fun (r30 : Int) =>
      .call 16 0 [(.str s29), (.int .i64 r30)] fun o =>
        outT o16x0 o (fun (i31 : Int) (i32 : Int) (i33 : Int) (i34 : Int) (i35 : Int) (i36 : Int) =>
        .nm i35 fun (r37 : Int) =>
        .nm i36 fun (r38 : Int) =>
        .call 17 0 [(.int .u64 i0), (.int .u64 i1), (.int .u64 i2), (.int .u64 i3)] fun o =>
          outT o17x0 o (fun (s39 : List UInt8) =>
          .nm (s6 == s39) fun (b40 : Bool) =>
          .ite b40 (.nm (Bool.and (i31 == i0) (Bool.and (i32 == i1) (Bool.and (i33 == i2) (Bool.and (i34 == i3) Bool.true)))) fun (b41 : Bool) =>
            .ite b41 (.nm (((List.length s4) : Nat) : Int) fun (r42 : Int) =>
              .nm (((List.length s6) : Nat) : Int) fun (r43 : Int) =>
              .nm (Go.IntKind.wrap .i64 (r42 + r43)) fun (r44 : Int) =>
              .nm (r37 == r44) fun (b45 : Bool) =>
              .ite b45 (.nm (r38 == (0 : Int)) fun (b46 : Bool) =>
                .ite b46 (.done ((.ret ((.bool Bool.true), .no)), ⟨[], ([] : List Nat)⟩))
                  (.done ((.ret ((.bool Bool.false), .no)), ⟨[], ([] : List Nat)⟩)))
                (.done ((.ret ((.bool Bool.false), .no)), ⟨[], ([] : List Nat)⟩)))
              (.done ((.ret ((.bool Bool.false), .no)), ⟨[], ([] : List Nat)⟩)))
            (.done ((.ret ((.bool Bool.false), .no)), ⟨[], ([] : List Nat)⟩)))
           (.fail))
         (.fail)))
     (.fail)
set_option maxRecDepth 20000 in
theorem e5x0 (call : CallFn) (i0 : Int) (i1 : Int) (i2 : Int) (i3 : Int) (s4 : List UInt8) (s5 : List UInt8) : lay.tree call 5 d5 0 [(.int .u64 i0), (.int .u64 i1), (.int .u64 i2), (.int .u64 i3), (.str s4), (.str s5)] = t5x0 i0 i1 i2 i3 s4 s5 := by kernel_rfl
/-! auklet/aukletref04.Of -/
noncomputable def t10x0 (i0 : Int) (i1 : Int) (i2 : Int) (i3 : Int) : Tree :=
  .need ((256 = 256) ∧ ((1 ≤ 256) ∧ ((bigOk (2 + 1) (expand ((.agg (List.replicate 256 (.bool Bool.false))), (.agg (List.replicate 256 .no))))) ∧ ((0 + 256) ≤ 256)))) <|
  .nm (List.replicate 256 ((.bool Bool.false), .no)) fun (c4 : List SV) =>
  .jump 1 [(.int .i64 (0 : Int)), (.int .u64 i0), (.int .u64 i1), (.int .u64 i2), (.int .u64 i3), (.agg (List.replicate 256 (.bool Bool.false))), (.agg (List.map (fun (x : SV) => (x).1) c4))]
set_option maxRecDepth 20000 in
theorem e10x0 (call : CallFn) (i0 : Int) (i1 : Int) (i2 : Int) (i3 : Int) : lay.tree call 10 d10 0 [(.int .u64 i0), (.int .u64 i1), (.int .u64 i2), (.int .u64 i3)] = t10x0 i0 i1 i2 i3 := by kernel_rfl
noncomputable def t10x1 (i0 : Int) (i1 : Int) (i2 : Int) (i3 : Int) (i4 : Int) (c5 : List AV) (c6 : List AV) : Tree :=
  .nm (decide (i0 < (256 : Int))) fun (b7 : Bool) =>
  .ite b7 (.need (nonzero (64 : Int)) <|
    .nm (Go.IntKind.wrap .i64 (Int.tdiv i0 (64 : Int))) fun (r8 : Int) =>
    .need (inR r8 4) <|
    .opn [.int .u64] (Option.bind ([((.int .u64 i1), .no), ((.int .u64 i2), .no), ((.int .u64 i3), .no), ((.int .u64 i4), .no)][(0 + ((Int.toNat r8) * 1))]?) plain1) <| fun (i9 : Int) =>
    .need (nonzero (64 : Int)) <|
    .nm (Int.tmod i0 (64 : Int)) fun (r10 : Int) =>
    .nm (Go.IntKind.wrap .u64 r10) fun (r11 : Int) =>
    .need (nonneg r11) <|
    .nm (Int.fdiv i9 ((2 : Int) ^ (Min.min (Int.toNat r11) 64))) fun (r12 : Int) =>
    .need (nonzero (2 : Int)) <|
    .nm (Int.tmod r12 (2 : Int)) fun (r13 : Int) =>
    .nm (r13 == (1 : Int)) fun (b14 : Bool) =>
    .need (inR i0 256) <|
    .need (((0 + ((Int.toNat i0) * 1)) + 1) ≤ (List.length (List.map (fun (x : AV) => ((x, .no) : SV)) c6))) <|
    .nm (replaceAt (List.map (fun (x : AV) => ((x, .no) : SV)) c6) (0 + ((Int.toNat i0) * 1)) (keptCells (decide (2 < 0)) (0 + ((Int.toNat i0) * 1)) (List.map (fun (x : AV) => ((x, .no) : SV)) c6) (expand ((.bool b14), .no)))) fun (c15 : List SV) =>
    .nm (Go.IntKind.wrap .i64 (i0 + (1 : Int))) fun (r16 : Int) =>
    .jump 1 [(.int .i64 r16), (.int .u64 i1), (.int .u64 i2), (.int .u64 i3), (.int .u64 i4), (.agg (List.map (fun (x : SV) => (x).1) (List.map (fun (x : AV) => ((x, .no) : SV)) c5))), (.agg (List.map (fun (x : SV) => (x).1) c15))])
    (.need ((0 + 256) ≤ (List.length (List.map (fun (x : AV) => ((x, .no) : SV)) c6))) <|
    .need (((List.length (expand ((.agg (List.map (fun (x : SV) => (x).1) (List.take 256 (List.map (fun (x : AV) => ((x, .no) : SV)) c6)))), (.agg (List.map (fun (x : SV) => (x).2) (List.take 256 (List.map (fun (x : AV) => ((x, .no) : SV)) c6))))))) = 256) ∧ ((1 ≤ 256) ∧ ((bigOk (1 + 1) (expand ((.agg (List.map (fun (x : SV) => (x).1) (List.take 256 (List.map (fun (x : AV) => ((x, .no) : SV)) c6)))), (.agg (List.map (fun (x : SV) => (x).2) (List.take 256 (List.map (fun (x : AV) => ((x, .no) : SV)) c6))))))) ∧ ((0 + 256) ≤ (List.length (List.map (fun (x : AV) => ((x, .no) : SV)) c5)))))) <|
    .nm (replaceAt (List.map (fun (x : AV) => ((x, .no) : SV)) c5) 0 (keptCells (decide (1 < 0)) 0 (List.map (fun (x : AV) => ((x, .no) : SV)) c5) (expand ((.agg (List.map (fun (x : SV) => (x).1) (List.take 256 (List.map (fun (x : AV) => ((x, .no) : SV)) c6)))), (.agg (List.map (fun (x : SV) => (x).2) (List.take 256 (List.map (fun (x : AV) => ((x, .no) : SV)) c6)))))))) fun (c17 : List SV) =>
    .need ((0 + 256) ≤ (List.length c17)) <|
    .need (allLow 0 [(collect (List.take 256 c17))]) <|
    .done ((.ret ((.agg (List.map (fun (x : SV) => (x).1) (List.take 256 c17))), .no)), ⟨[], ([] : List Nat)⟩))
set_option maxRecDepth 20000 in
theorem e10x1 (call : CallFn) (i0 : Int) (i1 : Int) (i2 : Int) (i3 : Int) (i4 : Int) (c5 : List AV) (c6 : List AV) : lay.tree call 10 d10 1 [(.int .i64 i0), (.int .u64 i1), (.int .u64 i2), (.int .u64 i3), (.int .u64 i4), (.agg c5), (.agg c6)] = t10x1 i0 i1 i2 i3 i4 c5 c6 := by kernel_rfl
theorem s10x0 (v0 : AV) (g : AV → Tree) (els : Tree) : outT o10x0 ((.ret (v0, .no)), ⟨[], ([] : List Nat)⟩) g els = .need (([] : List Nat) = ([] : List Nat)) (g v0) := rfl
/-! auklet/class.Show -/
noncomputable def t15x0 (i0 : Int) (i1 : Int) (i2 : Int) (i3 : Int) : Tree :=
  .need ([0] = [0]) <|
  .call 24 0 [(.int .u8 (91 : Int)), (.buf 5 ([] : List UInt8))] fun o =>
    outT o24x0 o (fun (s4 : List UInt8) =>
    .nm (Bool.and (i0 == (0 : Int)) (Bool.and (i1 == (0 : Int)) (Bool.and (i2 == (0 : Int)) (Bool.and (i3 == (0 : Int)) Bool.true)))) fun (b5 : Bool) =>
    .ite b5 (.need ([(List.length s4)] = [(List.length s4)]) <|
      .call 24 0 [(.int .u8 (94 : Int)), (.buf 5 s4)] fun o =>
        outT o24x0 o (fun (s6 : List UInt8) =>
        .call 21 0 [(.int .u64 i0), (.int .u64 i1), (.int .u64 i2), (.int .u64 i3)] fun o =>
          outT o21x0 o (fun (i7 : Int) (i8 : Int) (i9 : Int) (i10 : Int) =>
          .need ([(List.length s6)] = [(List.length s6)]) <|
          .jump 1 [(.bool b5), (.int .i64 (0 : Int)), (.int .u64 i7), (.int .u64 i8), (.int .u64 i9), (.int .u64 i10), (.buf 5 s6)])
           (.fail))
         (.fail))
      (.need ([(List.length s4)] = [(List.length s4)]) <|
      .jump 1 [(.bool b5), (.int .i64 (0 : Int)), (.int .u64 i0), (.int .u64 i1), (.int .u64 i2), (.int .u64 i3), (.buf 5 s4)]))
     (.fail)
set_option maxRecDepth 20000 in
theorem e15x0 (call : CallFn) (i0 : Int) (i1 : Int) (i2 : Int) (i3 : Int) : lay.tree call 15 d15 0 [(.int .u64 i0), (.int .u64 i1), (.int .u64 i2), (.int .u64 i3)] = t15x0 i0 i1 i2 i3 := by kernel_rfl
noncomputable def t15x1 (b0 : Bool) (i1 : Int) (i2 : Int) (i3 : Int) (i4 : Int) (i5 : Int) (s6 : List UInt8) : Tree :=
  .nm (decide (i1 < (256 : Int))) fun (b7 : Bool) =>
  .ite b7 (.nm (Go.IntKind.wrap .u8 i1) fun (r8 : Int) =>
    .call 19 0 [(.int .u64 i2), (.int .u64 i3), (.int .u64 i4), (.int .u64 i5), (.int .u8 r8)] fun o =>
      outT o19x0 o (fun (b9 : Bool) =>
      .nm (Bool.not b9) fun (b10 : Bool) =>
      .ite b10 (.nm (Go.IntKind.wrap .i64 (i1 + (1 : Int))) fun (r11 : Int) =>
        .need ([(List.length s6)] = [(List.length s6)]) <|
        .jump 1 [(.bool b0), (.int .i64 r11), (.int .u64 i2), (.int .u64 i3), (.int .u64 i4), (.int .u64 i5), (.buf 5 s6)])
        (.nm (Go.IntKind.wrap .u8 i1) fun (r12 : Int) =>
        .call 25 0 [(.str ([94, 45, 93, 91, 92] : List UInt8)), (.int .u8 r12)] fun o =>
          outT o25x0 o (fun (i13 : Int) =>
          .nm (decide (i13 ≥ (0 : Int))) fun (b14 : Bool) =>
          .ite b14 (.need ([(List.length s6)] = [(List.length s6)]) <|
            .call 24 0 [(.int .u8 (92 : Int)), (.buf 5 s6)] fun o =>
              outT o24x0 o (fun (s15 : List UInt8) =>
              .nm (Go.IntKind.wrap .u8 i1) fun (r16 : Int) =>
              .need ([(List.length s15)] = [(List.length s15)]) <|
              .call 24 0 [(.int .u8 r16), (.buf 5 s15)] fun o =>
                outT o24x0 o (fun (s17 : List UInt8) =>
                .nm (Go.IntKind.wrap .i64 (i1 + (1 : Int))) fun (r18 : Int) =>
                .need ([(List.length s17)] = [(List.length s17)]) <|
                .jump 1 [(.bool b0), (.int .i64 r18), (.int .u64 i2), (.int .u64 i3), (.int .u64 i4), (.int .u64 i5), (.buf 5 s17)])
                 (.fail))
               (.fail))
            (.nm (Go.IntKind.wrap .u8 i1) fun (r19 : Int) =>
            .need ([(List.length s6)] = [(List.length s6)]) <|
            .call 24 0 [(.int .u8 r19), (.buf 5 s6)] fun o =>
              outT o24x0 o (fun (s20 : List UInt8) =>
              .nm (Go.IntKind.wrap .i64 (i1 + (1 : Int))) fun (r21 : Int) =>
              .need ([(List.length s20)] = [(List.length s20)]) <|
              .jump 1 [(.bool b0), (.int .i64 r21), (.int .u64 i2), (.int .u64 i3), (.int .u64 i4), (.int .u64 i5), (.buf 5 s20)])
               (.fail)))
           (.fail)))
       (.fail))
    (.need ([(List.length s6)] = [(List.length s6)]) <|
    .call 24 0 [(.int .u8 (93 : Int)), (.buf 5 s6)] fun o =>
      outT o24x0 o (fun (s22 : List UInt8) =>
      .need ([(List.length s22)] = [(List.length s22)]) <|
      .call 26 0 [(.buf 5 s22)] fun o =>
        outT o26x0 o (fun (s23 : List UInt8) (s24 : List UInt8) =>
        .done ((.ret ((.str s23), .no)), ⟨[], ([] : List Nat)⟩))
         (.fail))
       (.fail))
set_option maxRecDepth 20000 in
theorem e15x1 (call : CallFn) (b0 : Bool) (i1 : Int) (i2 : Int) (i3 : Int) (i4 : Int) (i5 : Int) (s6 : List UInt8) : lay.tree call 15 d15 1 [(.bool b0), (.int .i64 i1), (.int .u64 i2), (.int .u64 i3), (.int .u64 i4), (.int .u64 i5), (.buf 5 s6)] = t15x1 b0 i1 i2 i3 i4 i5 s6 := by kernel_rfl
theorem s15x0 (s0 : List UInt8) (g : List UInt8 → Tree) (els : Tree) : outT o15x0 ((.ret ((.str s0), .no)), ⟨[], ([] : List Nat)⟩) g els = .need (([] : List Nat) = ([] : List Nat)) (g s0) := rfl
/-! auklet/class.Parse -/
noncomputable def t16x0 (s0 : List UInt8) (i1 : Int) : Tree :=
  .nm (decide (i1 < (0 : Int))) fun (b2 : Bool) =>
  .ite b2 (.done ((.ret ((.tup [(.agg [(.int .u64 (0 : Int)), (.int .u64 (0 : Int)), (.int .u64 (0 : Int)), (.int .u64 (0 : Int))]), (.int .i64 (0 : Int)), (.int .i64 (1 : Int))]), (.agg [.no, .no, .no]))), ⟨[], ([] : List Nat)⟩))
    (.nm (((List.length s0) : Nat) : Int) fun (r3 : Int) =>
    .nm (decide (i1 ≥ r3)) fun (b4 : Bool) =>
    .ite b4 (.done ((.ret ((.tup [(.agg [(.int .u64 (0 : Int)), (.int .u64 (0 : Int)), (.int .u64 (0 : Int)), (.int .u64 (0 : Int))]), (.int .i64 (0 : Int)), (.int .i64 (1 : Int))]), (.agg [.no, .no, .no]))), ⟨[], ([] : List Nat)⟩))
      (.bind (byteAt s0 i1) fun (r5 : Int) =>
      .nm (r5 != (91 : Int)) fun (b6 : Bool) =>
      .ite b6 (.done ((.ret ((.tup [(.agg [(.int .u64 (0 : Int)), (.int .u64 (0 : Int)), (.int .u64 (0 : Int)), (.int .u64 (0 : Int))]), (.int .i64 (0 : Int)), (.int .i64 (1 : Int))]), (.agg [.no, .no, .no]))), ⟨[], ([] : List Nat)⟩))
        (.nm (Go.IntKind.wrap .i64 (i1 + (1 : Int))) fun (r7 : Int) =>
        .call 27 0 [(.str ([94] : List UInt8)), (.str s0), (.int .i64 r7)] fun o =>
          outT o27x0 o (fun (b8 : Bool) (s9 : List UInt8) (i10 : Int) =>
          .ite b8 (.nm (Go.IntKind.wrap .i64 (i10 + (1 : Int))) fun (r11 : Int) =>
            .jump 1 [(.bool b8), (.bool Bool.true), (.bool b6), (.bool b8), (.int .u64 (0 : Int)), (.int .u64 (0 : Int)), (.int .u64 (0 : Int)), (.int .u64 (0 : Int)), (.str s9), (.int .i64 r11), (.int .u64 (0 : Int)), (.int .u64 (0 : Int)), (.int .u64 (0 : Int)), (.int .u64 (0 : Int))])
            (.jump 1 [(.bool b8), (.bool Bool.true), (.bool b6), (.bool b8), (.int .u64 (0 : Int)), (.int .u64 (0 : Int)), (.int .u64 (0 : Int)), (.int .u64 (0 : Int)), (.str s9), (.int .i64 i10), (.int .u64 (0 : Int)), (.int .u64 (0 : Int)), (.int .u64 (0 : Int)), (.int .u64 (0 : Int))]))
           (.fail))))
set_option maxRecDepth 20000 in
theorem e16x0 (call : CallFn) (s0 : List UInt8) (i1 : Int) : lay.tree call 16 d16 0 [(.str s0), (.int .i64 i1)] = t16x0 s0 i1 := by kernel_rfl
noncomputable def t16x1 (b0 : Bool) (b1 : Bool) (b2 : Bool) (b3 : Bool) (i4 : Int) (i5 : Int) (i6 : Int) (i7 : Int) (s8 : List UInt8) (i9 : Int) (i10 : Int) (i11 : Int) (i12 : Int) (i13 : Int) : Tree :=
  .ite b1 (.call 28 0 [(.str s8), (.int .i64 i9)] fun o =>
      outT o28x0 o (fun (i14 : Int) (i15 : Int) (i16 : Int) (i17 : Int) (i18 : Int) (s19 : List UInt8) (i20 : Int) =>
      .nm i18 fun (r21 : Int) =>
      .nm (r21 != (0 : Int)) fun (b22 : Bool) =>
      .ite b22 (.done ((.ret ((.tup [(.agg [(.int .u64 (0 : Int)), (.int .u64 (0 : Int)), (.int .u64 (0 : Int)), (.int .u64 (0 : Int))]), (.int .i64 (0 : Int)), (.int .i64 r21)]), (.agg [.no, .no, .no]))), ⟨[], ([] : List Nat)⟩))
        (.call 22 0 [(.int .u64 i10), (.int .u64 i11), (.int .u64 i12), (.int .u64 i13), (.int .u64 i14), (.int .u64 i15), (.int .u64 i16), (.int .u64 i17)] fun o =>
          outT o22x0 o (fun (i23 : Int) (i24 : Int) (i25 : Int) (i26 : Int) =>
          .jump 1 [(.bool b0), (.bool Bool.false), (.bool b2), (.bool b3), (.int .u64 i4), (.int .u64 i5), (.int .u64 i6), (.int .u64 i7), (.str s19), (.int .i64 i20), (.int .u64 i23), (.int .u64 i24), (.int .u64 i25), (.int .u64 i26)])
           (.fail)))
       (.fail))
    (.call 27 0 [(.str ([93] : List UInt8)), (.str s8), (.int .i64 i9)] fun o =>
      outT o27x0 o (fun (b27 : Bool) (s28 : List UInt8) (i29 : Int) =>
      .nm (Bool.not b27) fun (b30 : Bool) =>
      .ite b30 (.call 28 0 [(.str s28), (.int .i64 i29)] fun o =>
          outT o28x0 o (fun (i31 : Int) (i32 : Int) (i33 : Int) (i34 : Int) (i35 : Int) (s36 : List UInt8) (i37 : Int) =>
          .nm i35 fun (r38 : Int) =>
          .nm (r38 != (0 : Int)) fun (b39 : Bool) =>
          .ite b39 (.done ((.ret ((.tup [(.agg [(.int .u64 (0 : Int)), (.int .u64 (0 : Int)), (.int .u64 (0 : Int)), (.int .u64 (0 : Int))]), (.int .i64 (0 : Int)), (.int .i64 r38)]), (.agg [.no, .no, .no]))), ⟨[], ([] : List Nat)⟩))
            (.call 22 0 [(.int .u64 i10), (.int .u64 i11), (.int .u64 i12), (.int .u64 i13), (.int .u64 i31), (.int .u64 i32), (.int .u64 i33), (.int .u64 i34)] fun o =>
              outT o22x0 o (fun (i40 : Int) (i41 : Int) (i42 : Int) (i43 : Int) =>
              .jump 1 [(.bool b0), (.bool Bool.false), (.bool b2), (.bool b3), (.int .u64 i4), (.int .u64 i5), (.int .u64 i6), (.int .u64 i7), (.str s36), (.int .i64 i37), (.int .u64 i40), (.int .u64 i41), (.int .u64 i42), (.int .u64 i43)])
               (.fail)))
           (.fail))
        (.ite b0 (.call 21 0 [(.int .u64 i10), (.int .u64 i11), (.int .u64 i12), (.int .u64 i13)] fun o =>
            outT o21x0 o (fun (i44 : Int) (i45 : Int) (i46 : Int) (i47 : Int) =>
            .nm (Go.IntKind.wrap .i64 (i29 + (1 : Int))) fun (r48 : Int) =>
            .need ((((.int .i64 i29), .no) : SV) = ((.int .i64 i29), .no)) <|
            .done ((.ret ((.tup [(.agg [(.int .u64 i44), (.int .u64 i45), (.int .u64 i46), (.int .u64 i47)]), (.int .i64 r48), (.int .i64 (0 : Int))]), (.agg [.no, .no, .no]))), ⟨[], ([] : List Nat)⟩))
             (.fail))
          (.nm (Go.IntKind.wrap .i64 (i29 + (1 : Int))) fun (r49 : Int) =>
          .need ((((.int .i64 i29), .no) : SV) = ((.int .i64 i29), .no)) <|
          .done ((.ret ((.tup [(.agg [(.int .u64 i10), (.int .u64 i11), (.int .u64 i12), (.int .u64 i13)]), (.int .i64 r49), (.int .i64 (0 : Int))]), (.agg [.no, .no, .no]))), ⟨[], ([] : List Nat)⟩))))
       (.fail))
set_option maxRecDepth 20000 in
theorem e16x1 (call : CallFn) (b0 : Bool) (b1 : Bool) (b2 : Bool) (b3 : Bool) (i4 : Int) (i5 : Int) (i6 : Int) (i7 : Int) (s8 : List UInt8) (i9 : Int) (i10 : Int) (i11 : Int) (i12 : Int) (i13 : Int) : lay.tree call 16 d16 1 [(.bool b0), (.bool b1), (.bool b2), (.bool b3), (.int .u64 i4), (.int .u64 i5), (.int .u64 i6), (.int .u64 i7), (.str s8), (.int .i64 i9), (.int .u64 i10), (.int .u64 i11), (.int .u64 i12), (.int .u64 i13)] = t16x1 b0 b1 b2 b3 i4 i5 i6 i7 s8 i9 i10 i11 i12 i13 := by kernel_rfl
theorem s16x0 (i0 : Int) (i1 : Int) (i2 : Int) (i3 : Int) (i4 : Int) (i5 : Int) (g : Int → Int → Int → Int → Int → Int → Tree) (els : Tree) : outT o16x0 ((.ret ((.tup [(.agg [(.int .u64 i0), (.int .u64 i1), (.int .u64 i2), (.int .u64 i3)]), (.int .i64 i4), (.int .i64 i5)]), (.agg [.no, .no, .no]))), ⟨[], ([] : List Nat)⟩) g els = .need (([] : List Nat) = ([] : List Nat)) (g i0 i1 i2 i3 i4 i5) := rfl
/-! auklet/aukletref04.Show -/
noncomputable def t17x0 (i0 : Int) (i1 : Int) (i2 : Int) (i3 : Int) : Tree :=
  .call 10 0 [(.int .u64 i0), (.int .u64 i1), (.int .u64 i2), (.int .u64 i3)] fun o =>
    outT o10x0 o (fun (v4 : AV) =>
    .need (((AV.low 0 v4) = Bool.true) ∧ ((.no : Tag) = .no)) <|
    .need (((List.length (expand (v4, .no))) = 256) ∧ ((1 ≤ 256) ∧ ((bigOk (1 + 1) (expand (v4, .no))) ∧ ((0 + 256) ≤ 256)))) <|
    .nm (replaceAt (List.replicate 256 ((.bool Bool.false), .no)) 0 (keptCells (decide (1 < 0)) 0 (List.replicate 256 ((.bool Bool.false), .no)) (expand (v4, .no)))) fun (c5 : List SV) =>
    .nm (Bool.and (i0 == (0 : Int)) (Bool.and (i1 == (0 : Int)) (Bool.and (i2 == (0 : Int)) (Bool.and (i3 == (0 : Int)) Bool.true)))) fun (b6 : Bool) =>
    .ite b6 (.need ((szOk [(.int .u8 (91 : Int))] 1) = Bool.true) <|
      .need ((szOk [(.int .u8 (94 : Int))] 1) = Bool.true) <|
      .need ((1 + 1) ≤ Ab.maxLen) <|
      .need ([2] = [2]) <|
      .jump 1 [(.sl [(.int .u8 (91 : Int)), (.int .u8 (94 : Int))]), (.bool b6), (.bool b6), (.int .u64 i0), (.int .u64 i1), (.int .u64 i2), (.int .u64 i3), (.agg (List.map (fun (x : SV) => (x).1) c5))])
      (.need ([1] = [1]) <|
      .jump 1 [(.sl [(.int .u8 (91 : Int))]), (.bool b6), (.bool b6), (.int .u64 i0), (.int .u64 i1), (.int .u64 i2), (.int .u64 i3), (.agg (List.map (fun (x : SV) => (x).1) c5))]))
     (.fail)
set_option maxRecDepth 20000 in
theorem e17x0 (call : CallFn) (i0 : Int) (i1 : Int) (i2 : Int) (i3 : Int) : lay.tree call 17 d17 0 [(.int .u64 i0), (.int .u64 i1), (.int .u64 i2), (.int .u64 i3)] = t17x0 i0 i1 i2 i3 := by kernel_rfl
noncomputable def t17x1 (l0 : List AV) (b1 : Bool) (b2 : Bool) (i3 : Int) (i4 : Int) (i5 : Int) (i6 : Int) (c7 : List AV) : Tree :=
  .need ([(List.length l0)] = [(List.length l0)]) <|
  .jump 2 [(.sl l0), (.bool b1), (.int .i64 (0 : Int)), (.bool b2), (.int .u64 i3), (.int .u64 i4), (.int .u64 i5), (.int .u64 i6), (.agg (List.map (fun (x : SV) => (x).1) (List.map (fun (x : AV) => ((x, .no) : SV)) c7)))]
set_option maxRecDepth 20000 in
theorem e17x1 (call : CallFn) (l0 : List AV) (b1 : Bool) (b2 : Bool) (i3 : Int) (i4 : Int) (i5 : Int) (i6 : Int) (c7 : List AV) : lay.tree call 17 d17 1 [(.sl l0), (.bool b1), (.bool b2), (.int .u64 i3), (.int .u64 i4), (.int .u64 i5), (.int .u64 i6), (.agg c7)] = t17x1 l0 b1 b2 i3 i4 i5 i6 c7 := by kernel_rfl
noncomputable def t17x2 (l0 : List AV) (b1 : Bool) (i2 : Int) (b3 : Bool) (i4 : Int) (i5 : Int) (i6 : Int) (i7 : Int) (c8 : List AV) : Tree :=
  .nm (decide (i2 < (256 : Int))) fun (b9 : Bool) =>
  .ite b9 (.need (inR i2 256) <|
    .opn [.bool] (Option.bind ((List.map (fun (x : AV) => ((x, .no) : SV)) c8)[(0 + ((Int.toNat i2) * 1))]?) plain1) <| fun (b10 : Bool) =>
    .ite b10 (.need ([(List.length l0)] = [(List.length l0)]) <|
      .jump 3 [(.sl l0), (.bool b1), (.int .i64 i2), (.bool b3), (.bool b9), (.bool Bool.true), (.int .u64 i4), (.int .u64 i5), (.int .u64 i6), (.int .u64 i7), (.agg (List.map (fun (x : SV) => (x).1) (List.map (fun (x : AV) => ((x, .no) : SV)) c8)))])
      (.ite b1 (.need ([(List.length l0)] = [(List.length l0)]) <|
        .jump 3 [(.sl l0), (.bool b1), (.int .i64 i2), (.bool b3), (.bool b9), (.bool b1), (.int .u64 i4), (.int .u64 i5), (.int .u64 i6), (.int .u64 i7), (.agg (List.map (fun (x : SV) => (x).1) (List.map (fun (x : AV) => ((x, .no) : SV)) c8)))])
        (.need ([(List.length l0)] = [(List.length l0)]) <|
        .jump 4 [(.sl l0), (.bool b1), (.int .i64 i2), (.bool b3), (.bool b9), (.bool b1), (.int .u64 i4), (.int .u64 i5), (.int .u64 i6), (.int .u64 i7), (.agg (List.map (fun (x : SV) => (x).1) (List.map (fun (x : AV) => ((x, .no) : SV)) c8)))])))
    (.need ((szOk l0 1) = Bool.true) <|
    .need ((szOk [(.int .u8 (93 : Int))] 1) = Bool.true) <|
    .need (((List.length l0) + 1) ≤ Ab.maxLen) <|
    .need ((Option.some (List.length l0)) = (Option.some (List.length l0))) <|
    .bind (bytesOf (l0 ++ [(.int .u8 (93 : Int))])) fun (s11 : List UInt8) =>
    .done ((.ret ((.str s11), .no)), ⟨[], ([] : List Nat)⟩))
set_option maxRecDepth 20000 in
theorem e17x2 (call : CallFn) (l0 : List AV) (b1 : Bool) (i2 : Int) (b3 : Bool) (i4 : Int) (i5 : Int) (i6 : Int) (i7 : Int) (c8 : List AV) : lay.tree call 17 d17 2 [(.sl l0), (.bool b1), (.int .i64 i2), (.bool b3), (.int .u64 i4), (.int .u64 i5), (.int .u64 i6), (.int .u64 i7), (.agg c8)] = t17x2 l0 b1 i2 b3 i4 i5 i6 i7 c8 := by kernel_rfl
noncomputable def t17x3 (l0 : List AV) (b1 : Bool) (i2 : Int) (b3 : Bool) (b4 : Bool) (b5 : Bool) (i6 : Int) (i7 : Int) (i8 : Int) (i9 : Int) (c10 : List AV) : Tree :=
  .nm (i2 == (94 : Int)) fun (b11 : Bool) =>
  .ite b11 (.need ([(List.length l0)] = [(List.length l0)]) <|
    .jump 5 [(.sl l0), (.bool b1), (.int .i64 i2), (.bool b3), (.bool b4), (.bool b5), (.bool Bool.true), (.int .u64 i6), (.int .u64 i7), (.int .u64 i8), (.int .u64 i9), (.agg (List.map (fun (x : SV) => (x).1) (List.map (fun (x : AV) => ((x, .no) : SV)) c10)))])
    (.nm (i2 == (45 : Int)) fun (b12 : Bool) =>
    .ite b12 (.need ([(List.length l0)] = [(List.length l0)]) <|
      .jump 5 [(.sl l0), (.bool b1), (.int .i64 i2), (.bool b3), (.bool b4), (.bool b5), (.bool Bool.true), (.int .u64 i6), (.int .u64 i7), (.int .u64 i8), (.int .u64 i9), (.agg (List.map (fun (x : SV) => (x).1) (List.map (fun (x : AV) => ((x, .no) : SV)) c10)))])
      (.nm (i2 == (93 : Int)) fun (b13 : Bool) =>
      .ite b13 (.need ([(List.length l0)] = [(List.length l0)]) <|
        .jump 5 [(.sl l0), (.bool b1), (.int .i64 i2), (.bool b3), (.bool b4), (.bool b5), (.bool Bool.true), (.int .u64 i6), (.int .u64 i7), (.int .u64 i8), (.int .u64 i9), (.agg (List.map (fun (x : SV) => (x).1) (List.map (fun (x : AV) => ((x, .no) : SV)) c10)))])
        (.nm (i2 == (91 : Int)) fun (b14 : Bool) =>
        .ite b14 (.need ([(List.length l0)] = [(List.length l0)]) <|
          .jump 5 [(.sl l0), (.bool b1), (.int .i64 i2), (.bool b3), (.bool b4), (.bool b5), (.bool Bool.true), (.int .u64 i6), (.int .u64 i7), (.int .u64 i8), (.int .u64 i9), (.agg (List.map (fun (x : SV) => (x).1) (List.map (fun (x : AV) => ((x, .no) : SV)) c10)))])
          (.nm (i2 == (92 : Int)) fun (b15 : Bool) =>
          .ite b15 (.need ([(List.length l0)] = [(List.length l0)]) <|
            .jump 5 [(.sl l0), (.bool b1), (.int .i64 i2), (.bool b3), (.bool b4), (.bool b5), (.bool b15), (.int .u64 i6), (.int .u64 i7), (.int .u64 i8), (.int .u64 i9), (.agg (List.map (fun (x : SV) => (x).1) (List.map (fun (x : AV) => ((x, .no) : SV)) c10)))])
            (.need ([(List.length l0)] = [(List.length l0)]) <|
            .jump 6 [(.sl l0), (.bool b1), (.int .i64 i2), (.bool b3), (.bool b4), (.bool b5), (.bool b15), (.int .u64 i6), (.int .u64 i7), (.int .u64 i8), (.int .u64 i9), (.agg (List.map (fun (x : SV) => (x).1) (List.map (fun (x : AV) => ((x, .no) : SV)) c10)))])))))
set_option maxRecDepth 20000 in
theorem e17x3 (call : CallFn) (l0 : List AV) (b1 : Bool) (i2 : Int) (b3 : Bool) (b4 : Bool) (b5 : Bool) (i6 : Int) (i7 : Int) (i8 : Int) (i9 : Int) (c10 : List AV) : lay.tree call 17 d17 3 [(.sl l0), (.bool b1), (.int .i64 i2), (.bool b3), (.bool b4), (.bool b5), (.int .u64 i6), (.int .u64 i7), (.int .u64 i8), (.int .u64 i9), (.agg c10)] = t17x3 l0 b1 i2 b3 b4 b5 i6 i7 i8 i9 c10 := by kernel_rfl
noncomputable def t17x4 (l0 : List AV) (b1 : Bool) (i2 : Int) (b3 : Bool) (b4 : Bool) (b5 : Bool) (i6 : Int) (i7 : Int) (i8 : Int) (i9 : Int) (c10 : List AV) : Tree :=
  .nm (Go.IntKind.wrap .i64 (i2 + (1 : Int))) fun (r11 : Int) =>
  .need ([(List.length l0)] = [(List.length l0)]) <|
  .jump 2 [(.sl l0), (.bool b1), (.int .i64 r11), (.bool b3), (.int .u64 i6), (.int .u64 i7), (.int .u64 i8), (.int .u64 i9), (.agg (List.map (fun (x : SV) => (x).1) (List.map (fun (x : AV) => ((x, .no) : SV)) c10)))]
set_option maxRecDepth 20000 in
theorem e17x4 (call : CallFn) (l0 : List AV) (b1 : Bool) (i2 : Int) (b3 : Bool) (b4 : Bool) (b5 : Bool) (i6 : Int) (i7 : Int) (i8 : Int) (i9 : Int) (c10 : List AV) : lay.tree call 17 d17 4 [(.sl l0), (.bool b1), (.int .i64 i2), (.bool b3), (.bool b4), (.bool b5), (.int .u64 i6), (.int .u64 i7), (.int .u64 i8), (.int .u64 i9), (.agg c10)] = t17x4 l0 b1 i2 b3 b4 b5 i6 i7 i8 i9 c10 := by kernel_rfl
noncomputable def t17x5 (l0 : List AV) (b1 : Bool) (i2 : Int) (b3 : Bool) (b4 : Bool) (b5 : Bool) (b6 : Bool) (i7 : Int) (i8 : Int) (i9 : Int) (i10 : Int) (c11 : List AV) : Tree :=
  .need ((szOk l0 1) = Bool.true) <|
  .need ((szOk [(.int .u8 (92 : Int))] 1) = Bool.true) <|
  .need (((List.length l0) + 1) ≤ Ab.maxLen) <|
  .need ((Option.some (List.length l0)) = (Option.some (List.length l0))) <|
  .need ([(List.length (l0 ++ [(.int .u8 (92 : Int))]))] = [(List.length (l0 ++ [(.int .u8 (92 : Int))]))]) <|
  .jump 6 [(.sl (l0 ++ [(.int .u8 (92 : Int))])), (.bool b1), (.int .i64 i2), (.bool b3), (.bool b4), (.bool b5), (.bool b6), (.int .u64 i7), (.int .u64 i8), (.int .u64 i9), (.int .u64 i10), (.agg (List.map (fun (x : SV) => (x).1) (List.map (fun (x : AV) => ((x, .no) : SV)) c11)))]
set_option maxRecDepth 20000 in
theorem e17x5 (call : CallFn) (l0 : List AV) (b1 : Bool) (i2 : Int) (b3 : Bool) (b4 : Bool) (b5 : Bool) (b6 : Bool) (i7 : Int) (i8 : Int) (i9 : Int) (i10 : Int) (c11 : List AV) : lay.tree call 17 d17 5 [(.sl l0), (.bool b1), (.int .i64 i2), (.bool b3), (.bool b4), (.bool b5), (.bool b6), (.int .u64 i7), (.int .u64 i8), (.int .u64 i9), (.int .u64 i10), (.agg c11)] = t17x5 l0 b1 i2 b3 b4 b5 b6 i7 i8 i9 i10 c11 := by kernel_rfl
noncomputable def t17x6 (l0 : List AV) (b1 : Bool) (i2 : Int) (b3 : Bool) (b4 : Bool) (b5 : Bool) (b6 : Bool) (i7 : Int) (i8 : Int) (i9 : Int) (i10 : Int) (c11 : List AV) : Tree :=
  .nm (Go.IntKind.wrap .u8 i2) fun (r12 : Int) =>
  .need ((szOk l0 1) = Bool.true) <|
  .need ((szOk [(.int .u8 r12)] 1) = Bool.true) <|
  .need (((List.length l0) + 1) ≤ Ab.maxLen) <|
  .need ((Option.some (List.length l0)) = (Option.some (List.length l0))) <|
  .need ([(List.length (l0 ++ [(.int .u8 r12)]))] = [(List.length (l0 ++ [(.int .u8 r12)]))]) <|
  .jump 4 [(.sl (l0 ++ [(.int .u8 r12)])), (.bool b1), (.int .i64 i2), (.bool b3), (.bool b4), (.bool b5), (.int .u64 i7), (.int .u64 i8), (.int .u64 i9), (.int .u64 i10), (.agg (List.map (fun (x : SV) => (x).1) (List.map (fun (x : AV) => ((x, .no) : SV)) c11)))]
set_option maxRecDepth 20000 in
theorem e17x6 (call : CallFn) (l0 : List AV) (b1 : Bool) (i2 : Int) (b3 : Bool) (b4 : Bool) (b5 : Bool) (b6 : Bool) (i7 : Int) (i8 : Int) (i9 : Int) (i10 : Int) (c11 : List AV) : lay.tree call 17 d17 6 [(.sl l0), (.bool b1), (.int .i64 i2), (.bool b3), (.bool b4), (.bool b5), (.bool b6), (.int .u64 i7), (.int .u64 i8), (.int .u64 i9), (.int .u64 i10), (.agg c11)] = t17x6 l0 b1 i2 b3 b4 b5 b6 i7 i8 i9 i10 c11 := by kernel_rfl
theorem s17x0 (s0 : List UInt8) (g : List UInt8 → Tree) (els : Tree) : outT o17x0 ((.ret ((.str s0), .no)), ⟨[], ([] : List Nat)⟩) g els = .need (([] : List Nat) = ([] : List Nat)) (g s0) := rfl
/-! auklet/class.has -/
noncomputable def t19x0 (i0 : Int) (i1 : Int) (i2 : Int) (i3 : Int) (i4 : Int) : Tree :=
  .need (nonzero (64 : Int)) <|
  .nm (Go.IntKind.wrap .u8 (Int.tdiv i4 (64 : Int))) fun (r5 : Int) =>
  .need (inR r5 4) <|
  .opn [.int .u64] (Option.bind ([((.int .u64 i0), .no), ((.int .u64 i1), .no), ((.int .u64 i2), .no), ((.int .u64 i3), .no)][(0 + ((Int.toNat r5) * 1))]?) plain1) <| fun (i6 : Int) =>
  .need (nonzero (64 : Int)) <|
  .nm (Int.tmod i4 (64 : Int)) fun (r7 : Int) =>
  .need (nonneg r7) <|
  .nm (Int.fdiv i6 ((2 : Int) ^ (Min.min (Int.toNat r7) 64))) fun (r8 : Int) =>
  .nm (andI .u64 r8 (1 : Int)) fun (r9 : Int) =>
  .nm (r9 == (1 : Int)) fun (b10 : Bool) =>
  .done ((.ret ((.bool b10), .no)), ⟨[], ([] : List Nat)⟩)
set_option maxRecDepth 20000 in
theorem e19x0 (call : CallFn) (i0 : Int) (i1 : Int) (i2 : Int) (i3 : Int) (i4 : Int) : lay.tree call 19 d19 0 [(.int .u64 i0), (.int .u64 i1), (.int .u64 i2), (.int .u64 i3), (.int .u8 i4)] = t19x0 i0 i1 i2 i3 i4 := by kernel_rfl
theorem s19x0 (b0 : Bool) (g : Bool → Tree) (els : Tree) : outT o19x0 ((.ret ((.bool b0), .no)), ⟨[], ([] : List Nat)⟩) g els = .need (([] : List Nat) = ([] : List Nat)) (g b0) := rfl
/-! auklet/class.add -/
noncomputable def t20x0 (i0 : Int) (i1 : Int) (i2 : Int) (i3 : Int) (i4 : Int) (i5 : Int) : Tree :=
  .nm (Go.IntKind.wrap .i64 i4) fun (r6 : Int) =>
  .jump 1 [(.int .u8 i5), (.int .i64 r6), (.int .u64 i0), (.int .u64 i1), (.int .u64 i2), (.int .u64 i3), (.int .u64 (0 : Int)), (.int .u64 (0 : Int)), (.int .u64 (0 : Int)), (.int .u64 (0 : Int))]
set_option maxRecDepth 20000 in
theorem e20x0 (call : CallFn) (i0 : Int) (i1 : Int) (i2 : Int) (i3 : Int) (i4 : Int) (i5 : Int) : lay.tree call 20 d20 0 [(.int .u64 i0), (.int .u64 i1), (.int .u64 i2), (.int .u64 i3), (.int .u8 i4), (.int .u8 i5)] = t20x0 i0 i1 i2 i3 i4 i5 := by kernel_rfl
noncomputable def t20x1 (i0 : Int) (i1 : Int) (i2 : Int) (i3 : Int) (i4 : Int) (i5 : Int) (i6 : Int) (i7 : Int) (i8 : Int) (i9 : Int) : Tree :=
  .nm (Go.IntKind.wrap .i64 i0) fun (r10 : Int) =>
  .nm (decide (i1 ≤ r10)) fun (b11 : Bool) =>
  .ite b11 (.need (nonzero (64 : Int)) <|
    .nm (Go.IntKind.wrap .i64 (Int.tdiv i1 (64 : Int))) fun (r12 : Int) =>
    .need (inR r12 4) <|
    .opn [.int .u64] (Option.bind ([((.int .u64 i2), .no), ((.int .u64 i3), .no), ((.int .u64 i4), .no), ((.int .u64 i5), .no)][(0 + ((Int.toNat r12) * 1))]?) plain1) <| fun (i13 : Int) =>
    .need (nonzero (64 : Int)) <|
    .nm (Int.tmod i1 (64 : Int)) fun (r14 : Int) =>
    .need (nonneg r14) <|
    .nm (Go.IntKind.wrap .u64 ((1 : Int) * ((2 : Int) ^ (Min.min (Int.toNat r14) 64)))) fun (r15 : Int) =>
    .nm (orI .u64 i13 r15) fun (r16 : Int) =>
    .need (inR r12 4) <|
    .need (((0 + ((Int.toNat r12) * 1)) + 1) ≤ 4) <|
    .opn [.int .u64, .int .u64, .int .u64, .int .u64] (plainL (replaceAt [((.int .u64 i2), .no), ((.int .u64 i3), .no), ((.int .u64 i4), .no), ((.int .u64 i5), .no)] (0 + ((Int.toNat r12) * 1)) (keptCells (decide (0 < 0)) (0 + ((Int.toNat r12) * 1)) [((.int .u64 i2), .no), ((.int .u64 i3), .no), ((.int .u64 i4), .no), ((.int .u64 i5), .no)] (expand ((.int .u64 r16), .no))))) <| fun (i17 : Int) (i18 : Int) (i19 : Int) (i20 : Int) =>
    .nm (Go.IntKind.wrap .i64 (i1 + (1 : Int))) fun (r21 : Int) =>
    .jump 1 [(.int .u8 i0), (.int .i64 r21), (.int .u64 i17), (.int .u64 i18), (.int .u64 i19), (.int .u64 i20), (.int .u64 i6), (.int .u64 i7), (.int .u64 i8), (.int .u64 i9)])
    (.done ((.ret ((.agg [(.int .u64 i2), (.int .u64 i3), (.int .u64 i4), (.int .u64 i5)]), .no)), ⟨[], ([] : List Nat)⟩))
set_option maxRecDepth 20000 in
theorem e20x1 (call : CallFn) (i0 : Int) (i1 : Int) (i2 : Int) (i3 : Int) (i4 : Int) (i5 : Int) (i6 : Int) (i7 : Int) (i8 : Int) (i9 : Int) : lay.tree call 20 d20 1 [(.int .u8 i0), (.int .i64 i1), (.int .u64 i2), (.int .u64 i3), (.int .u64 i4), (.int .u64 i5), (.int .u64 i6), (.int .u64 i7), (.int .u64 i8), (.int .u64 i9)] = t20x1 i0 i1 i2 i3 i4 i5 i6 i7 i8 i9 := by kernel_rfl
theorem s20x0 (i0 : Int) (i1 : Int) (i2 : Int) (i3 : Int) (g : Int → Int → Int → Int → Tree) (els : Tree) : outT o20x0 ((.ret ((.agg [(.int .u64 i0), (.int .u64 i1), (.int .u64 i2), (.int .u64 i3)]), .no)), ⟨[], ([] : List Nat)⟩) g els = .need (([] : List Nat) = ([] : List Nat)) (g i0 i1 i2 i3) := rfl
/-! auklet/class.not -/
noncomputable def t21x0 (i0 : Int) (i1 : Int) (i2 : Int) (i3 : Int) : Tree :=
  .jump 1 [(.int .i64 (0 : Int)), (.int .u64 i0), (.int .u64 i1), (.int .u64 i2), (.int .u64 i3), (.int .u64 (0 : Int)), (.int .u64 (0 : Int)), (.int .u64 (0 : Int)), (.int .u64 (0 : Int))]
set_option maxRecDepth 20000 in
theorem e21x0 (call : CallFn) (i0 : Int) (i1 : Int) (i2 : Int) (i3 : Int) : lay.tree call 21 d21 0 [(.int .u64 i0), (.int .u64 i1), (.int .u64 i2), (.int .u64 i3)] = t21x0 i0 i1 i2 i3 := by kernel_rfl
noncomputable def t21x1 (i0 : Int) (i1 : Int) (i2 : Int) (i3 : Int) (i4 : Int) (i5 : Int) (i6 : Int) (i7 : Int) (i8 : Int) : Tree :=
  .nm (decide (i0 < (4 : Int))) fun (b9 : Bool) =>
  .ite b9 (.need (inR i0 4) <|
    .opn [.int .u64] (Option.bind ([((.int .u64 i1), .no), ((.int .u64 i2), .no), ((.int .u64 i3), .no), ((.int .u64 i4), .no)][(0 + ((Int.toNat i0) * 1))]?) plain1) <| fun (i10 : Int) =>
    .nm (xorI .u64 ((((2 ^ 64) - 1) : Nat) : Int) i10) fun (r11 : Int) =>
    .need (inR i0 4) <|
    .need (((0 + ((Int.toNat i0) * 1)) + 1) ≤ 4) <|
    .opn [.int .u64, .int .u64, .int .u64, .int .u64] (plainL (replaceAt [((.int .u64 i1), .no), ((.int .u64 i2), .no), ((.int .u64 i3), .no), ((.int .u64 i4), .no)] (0 + ((Int.toNat i0) * 1)) (keptCells (decide (0 < 0)) (0 + ((Int.toNat i0) * 1)) [((.int .u64 i1), .no), ((.int .u64 i2), .no), ((.int .u64 i3), .no), ((.int .u64 i4), .no)] (expand ((.int .u64 r11), .no))))) <| fun (i12 : Int) (i13 : Int) (i14 : Int) (i15 : Int) =>
    .nm (Go.IntKind.wrap .i64 (i0 + (1 : Int))) fun (r16 : Int) =>
    .jump 1 [(.int .i64 r16), (.int .u64 i12), (.int .u64 i13), (.int .u64 i14), (.int .u64 i15), (.int .u64 i5), (.int .u64 i6), (.int .u64 i7), (.int .u64 i8)])
    (.done ((.ret ((.agg [(.int .u64 i1), (.int .u64 i2), (.int .u64 i3), (.int .u64 i4)]), .no)), ⟨[], ([] : List Nat)⟩))
set_option maxRecDepth 20000 in
theorem e21x1 (call : CallFn) (i0 : Int) (i1 : Int) (i2 : Int) (i3 : Int) (i4 : Int) (i5 : Int) (i6 : Int) (i7 : Int) (i8 : Int) : lay.tree call 21 d21 1 [(.int .i64 i0), (.int .u64 i1), (.int .u64 i2), (.int .u64 i3), (.int .u64 i4), (.int .u64 i5), (.int .u64 i6), (.int .u64 i7), (.int .u64 i8)] = t21x1 i0 i1 i2 i3 i4 i5 i6 i7 i8 := by kernel_rfl
theorem s21x0 (i0 : Int) (i1 : Int) (i2 : Int) (i3 : Int) (g : Int → Int → Int → Int → Tree) (els : Tree) : outT o21x0 ((.ret ((.agg [(.int .u64 i0), (.int .u64 i1), (.int .u64 i2), (.int .u64 i3)]), .no)), ⟨[], ([] : List Nat)⟩) g els = .need (([] : List Nat) = ([] : List Nat)) (g i0 i1 i2 i3) := rfl
/-! auklet/class.union -/
noncomputable def t22x0 (i0 : Int) (i1 : Int) (i2 : Int) (i3 : Int) (i4 : Int) (i5 : Int) (i6 : Int) (i7 : Int) : Tree :=
  .jump 1 [(.int .i64 (0 : Int)), (.int .u64 i0), (.int .u64 i1), (.int .u64 i2), (.int .u64 i3), (.int .u64 i4), (.int .u64 i5), (.int .u64 i6), (.int .u64 i7), (.int .u64 (0 : Int)), (.int .u64 (0 : Int)), (.int .u64 (0 : Int)), (.int .u64 (0 : Int))]
set_option maxRecDepth 20000 in
theorem e22x0 (call : CallFn) (i0 : Int) (i1 : Int) (i2 : Int) (i3 : Int) (i4 : Int) (i5 : Int) (i6 : Int) (i7 : Int) : lay.tree call 22 d22 0 [(.int .u64 i0), (.int .u64 i1), (.int .u64 i2), (.int .u64 i3), (.int .u64 i4), (.int .u64 i5), (.int .u64 i6), (.int .u64 i7)] = t22x0 i0 i1 i2 i3 i4 i5 i6 i7 := by kernel_rfl
noncomputable def t22x1 (i0 : Int) (i1 : Int) (i2 : Int) (i3 : Int) (i4 : Int) (i5 : Int) (i6 : Int) (i7 : Int) (i8 : Int) (i9 : Int) (i10 : Int) (i11 : Int) (i12 : Int) : Tree :=
  .nm (decide (i0 < (4 : Int))) fun (b13 : Bool) =>
  .ite b13 (.need (inR i0 4) <|
    .opn [.int .u64] (Option.bind ([((.int .u64 i1), .no), ((.int .u64 i2), .no), ((.int .u64 i3), .no), ((.int .u64 i4), .no)][(0 + ((Int.toNat i0) * 1))]?) plain1) <| fun (i14 : Int) =>
    .need (inR i0 4) <|
    .opn [.int .u64] (Option.bind ([((.int .u64 i5), .no), ((.int .u64 i6), .no), ((.int .u64 i7), .no), ((.int .u64 i8), .no)][(0 + ((Int.toNat i0) * 1))]?) plain1) <| fun (i15 : Int) =>
    .nm (orI .u64 i14 i15) fun (r16 : Int) =>
    .need (inR i0 4) <|
    .need (((0 + ((Int.toNat i0) * 1)) + 1) ≤ 4) <|
    .opn [.int .u64, .int .u64, .int .u64, .int .u64] (plainL (replaceAt [((.int .u64 i1), .no), ((.int .u64 i2), .no), ((.int .u64 i3), .no), ((.int .u64 i4), .no)] (0 + ((Int.toNat i0) * 1)) (keptCells (decide (0 < 0)) (0 + ((Int.toNat i0) * 1)) [((.int .u64 i1), .no), ((.int .u64 i2), .no), ((.int .u64 i3), .no), ((.int .u64 i4), .no)] (expand ((.int .u64 r16), .no))))) <| fun (i17 : Int) (i18 : Int) (i19 : Int) (i20 : Int) =>
    .nm (Go.IntKind.wrap .i64 (i0 + (1 : Int))) fun (r21 : Int) =>
    .jump 1 [(.int .i64 r21), (.int .u64 i17), (.int .u64 i18), (.int .u64 i19), (.int .u64 i20), (.int .u64 i5), (.int .u64 i6), (.int .u64 i7), (.int .u64 i8), (.int .u64 i9), (.int .u64 i10), (.int .u64 i11), (.int .u64 i12)])
    (.done ((.ret ((.agg [(.int .u64 i1), (.int .u64 i2), (.int .u64 i3), (.int .u64 i4)]), .no)), ⟨[], ([] : List Nat)⟩))
set_option maxRecDepth 20000 in
theorem e22x1 (call : CallFn) (i0 : Int) (i1 : Int) (i2 : Int) (i3 : Int) (i4 : Int) (i5 : Int) (i6 : Int) (i7 : Int) (i8 : Int) (i9 : Int) (i10 : Int) (i11 : Int) (i12 : Int) : lay.tree call 22 d22 1 [(.int .i64 i0), (.int .u64 i1), (.int .u64 i2), (.int .u64 i3), (.int .u64 i4), (.int .u64 i5), (.int .u64 i6), (.int .u64 i7), (.int .u64 i8), (.int .u64 i9), (.int .u64 i10), (.int .u64 i11), (.int .u64 i12)] = t22x1 i0 i1 i2 i3 i4 i5 i6 i7 i8 i9 i10 i11 i12 := by kernel_rfl
theorem s22x0 (i0 : Int) (i1 : Int) (i2 : Int) (i3 : Int) (g : Int → Int → Int → Int → Tree) (els : Tree) : outT o22x0 ((.ret ((.agg [(.int .u64 i0), (.int .u64 i1), (.int .u64 i2), (.int .u64 i3)]), .no)), ⟨[], ([] : List Nat)⟩) g els = .need (([] : List Nat) = ([] : List Nat)) (g i0 i1 i2 i3) := rfl
/-! (*strings.Builder).WriteByte -/
noncomputable def t24x0 (i0 : Int) (s1 : List UInt8) : Tree :=
  .need ((51 = 51) ∧ (5 = 5)) <|
  .need (((0 : Int) ≤ i0) ∧ (i0 < (256 : Int))) <|
  .need (((List.length s1) + 1) ≤ Ab.maxLen) <|
  .need ((Option.some (List.length s1)) = (Option.some (List.length s1))) <|
  .done ((.ret (.nili, .no)), ⟨[[((.bself 51 0), .no), ((.buf 5 (s1 ++ ([(UInt8.ofNat (Int.toNat i0))] : List UInt8))), (.tok 0))]], [(List.length (s1 ++ ([(UInt8.ofNat (Int.toNat i0))] : List UInt8)))]⟩)
set_option maxRecDepth 20000 in
theorem e24x0 (call : CallFn) (i0 : Int) (s1 : List UInt8) : lay.tree call 24 d24 0 [(.int .u8 i0), (.buf 5 s1)] = t24x0 i0 s1 := by kernel_rfl
theorem s24x0 (s0 : List UInt8) (g : List UInt8 → Tree) (els : Tree) : outT o24x0 ((.ret (.nili, .no)), ⟨[[((.bself 51 0), .no), ((.buf 5 s0), (.tok 0))]], [(List.length s0)]⟩) g els = .need ([(List.length s0)] = [(List.length s0)]) (g s0) := rfl
/-! strings.IndexByte -/
noncomputable def t25x0 (s0 : List UInt8) (i1 : Int) : Tree :=
  .call 31 0 [(.str s0), (.int .u8 i1)] fun o =>
    outT o31x0 o (fun (i2 : Int) =>
    .done ((.ret ((.int .i64 i2), .no)), ⟨[], ([] : List Nat)⟩))
     (.fail)
set_option maxRecDepth 20000 in
theorem e25x0 (call : CallFn) (s0 : List UInt8) (i1 : Int) : lay.tree call 25 d25 0 [(.str s0), (.int .u8 i1)] = t25x0 s0 i1 := by kernel_rfl
theorem s25x0 (i0 : Int) (g : Int → Tree) (els : Tree) : outT o25x0 ((.ret ((.int .i64 i0), .no)), ⟨[], ([] : List Nat)⟩) g els = .need (([] : List Nat) = ([] : List Nat)) (g i0) := rfl
/-! (*strings.Builder).String -/
noncomputable def t26x0 (s0 : List UInt8) : Tree :=
  .need ((Option.some (List.length s0)) = (Option.some (List.length s0))) <|
  .nm (((List.length s0) : Nat) : Int) fun (r1 : Int) =>
  .need (((Option.some (List.length s0)) = (Option.some (List.length s0))) ∧ ((r1 = (((List.length s0) : Nat) : Int)) ∧ ((List.length s0) ≤ Ab.maxLen))) <|
  .need ((((.buf 5 s0), (.tok 0)) : SV) = ((.buf 5 s0), (.tok 0))) <|
  .done ((.ret ((.str s0), .no)), ⟨[[((.bself 51 0), .no), ((.buf 5 s0), (.tok 0))]], [(List.length s0)]⟩)
set_option maxRecDepth 20000 in
theorem e26x0 (call : CallFn) (s0 : List UInt8) : lay.tree call 26 d26 0 [(.buf 5 s0)] = t26x0 s0 := by kernel_rfl
theorem s26x0 (s0 : List UInt8) (s1 : List UInt8) (g : List UInt8 → List UInt8 → Tree) (els : Tree) : outT o26x0 ((.ret ((.str s0), .no)), ⟨[[((.bself 51 0), .no), ((.buf 5 s1), (.tok 0))]], [(List.length s1)]⟩) g els = .need ([(List.length s1)] = [(List.length s1)]) (g s0 s1) := rfl
/-! (*auklet/class.reader).comes -/
noncomputable def t27x0 (s0 : List UInt8) (s1 : List UInt8) (i2 : Int) : Tree :=
  .need (inLo i2 (List.length s1)) <|
  .call 32 0 [(.str (List.drop (Int.toNat i2) (List.take (List.length s1) s1))), (.str s0)] fun o =>
    outT o32x0 o (fun (b3 : Bool) =>
    .done ((.ret ((.bool b3), .no)), ⟨[[((.str s1), .no), ((.int .i64 i2), .no)]], ([] : List Nat)⟩))
     (.fail)
set_option maxRecDepth 20000 in
theorem e27x0 (call : CallFn) (s0 : List UInt8) (s1 : List UInt8) (i2 : Int) : lay.tree call 27 d27 0 [(.str s0), (.str s1), (.int .i64 i2)] = t27x0 s0 s1 i2 := by kernel_rfl
theorem s27x0 (b0 : Bool) (s1 : List UInt8) (i2 : Int) (g : Bool → List UInt8 → Int → Tree) (els : Tree) : outT o27x0 ((.ret ((.bool b0), .no)), ⟨[[((.str s1), .no), ((.int .i64 i2), .no)]], ([] : List Nat)⟩) g els = .need (([] : List Nat) = ([] : List Nat)) (g b0 s1 i2) := rfl
/-! (*auklet/class.reader).item -/
noncomputable def t28x0 (s0 : List UInt8) (i1 : Int) : Tree :=
  .call 27 0 [(.str ([91, 58] : List UInt8)), (.str s0), (.int .i64 i1)] fun o =>
    outT o27x0 o (fun (b2 : Bool) (s3 : List UInt8) (i4 : Int) =>
    .ite b2 (.nm (Go.IntKind.wrap .i64 (i4 + (2 : Int))) fun (r5 : Int) =>
      .need (inLo r5 (List.length s3)) <|
      .fail)
      (.call 34 0 [(.str s3), (.int .i64 i4)] fun o =>
        outT o34x0 o (fun (i6 : Int) (b7 : Bool) (s8 : List UInt8) (i9 : Int) =>
        .nm i6 fun (r10 : Int) =>
        .nm b7 fun (b11 : Bool) =>
        .nm (Bool.not b11) fun (b12 : Bool) =>
        .ite b12 (.done ((.ret ((.tup [(.agg [(.int .u64 (0 : Int)), (.int .u64 (0 : Int)), (.int .u64 (0 : Int)), (.int .u64 (0 : Int))]), (.int .i64 (3 : Int))]), (.agg [.no, .no]))), ⟨[[((.str s8), .no), ((.int .i64 i9), .no)]], ([] : List Nat)⟩))
          (.call 27 0 [(.str ([45] : List UInt8)), (.str s8), (.int .i64 i9)] fun o =>
            outT o27x0 o (fun (b13 : Bool) (s14 : List UInt8) (i15 : Int) =>
            .ite b13 (.call 27 0 [(.str ([45, 93] : List UInt8)), (.str s14), (.int .i64 i15)] fun o =>
                outT o27x0 o (fun (b16 : Bool) (s17 : List UInt8) (i18 : Int) =>
                .nm (Bool.not b16) fun (b19 : Bool) =>
                .ite b19 (.call 27 0 [(.str ([45, 91, 58] : List UInt8)), (.str s17), (.int .i64 i18)] fun o =>
                    outT o27x0 o (fun (b20 : Bool) (s21 : List UInt8) (i22 : Int) =>
                    .nm (Bool.not b20) fun (b23 : Bool) =>
                    .ite b23 (.nm (Go.IntKind.wrap .i64 (i22 + (1 : Int))) fun (r24 : Int) =>
                      .call 34 0 [(.str s21), (.int .i64 r24)] fun o =>
                        outT o34x0 o (fun (i25 : Int) (b26 : Bool) (s27 : List UInt8) (i28 : Int) =>
                        .nm i25 fun (r29 : Int) =>
                        .nm b26 fun (b30 : Bool) =>
                        .nm (Bool.not b30) fun (b31 : Bool) =>
                        .ite b31 (.done ((.ret ((.tup [(.agg [(.int .u64 (0 : Int)), (.int .u64 (0 : Int)), (.int .u64 (0 : Int)), (.int .u64 (0 : Int))]), (.int .i64 (3 : Int))]), (.agg [.no, .no]))), ⟨[[((.str s27), .no), ((.int .i64 i28), .no)]], ([] : List Nat)⟩))
                          (.nm (decide (r29 < r10)) fun (b32 : Bool) =>
                          .ite b32 (.done ((.ret ((.tup [(.agg [(.int .u64 (0 : Int)), (.int .u64 (0 : Int)), (.int .u64 (0 : Int)), (.int .u64 (0 : Int))]), (.int .i64 (4 : Int))]), (.agg [.no, .no]))), ⟨[[((.str s27), .no), ((.int .i64 i28), .no)]], ([] : List Nat)⟩))
                            (.call 20 0 [(.int .u64 (0 : Int)), (.int .u64 (0 : Int)), (.int .u64 (0 : Int)), (.int .u64 (0 : Int)), (.int .u8 r10), (.int .u8 r29)] fun o =>
                              outT o20x0 o (fun (i33 : Int) (i34 : Int) (i35 : Int) (i36 : Int) =>
                              .done ((.ret ((.tup [(.agg [(.int .u64 i33), (.int .u64 i34), (.int .u64 i35), (.int .u64 i36)]), (.int .i64 (0 : Int))]), (.agg [.no, .no]))), ⟨[[((.str s27), .no), ((.int .i64 i28), .no)]], ([] : List Nat)⟩))
                               (.fail))))
                         (.fail))
                      (.call 20 0 [(.int .u64 (0 : Int)), (.int .u64 (0 : Int)), (.int .u64 (0 : Int)), (.int .u64 (0 : Int)), (.int .u8 r10), (.int .u8 r10)] fun o =>
                        outT o20x0 o (fun (i37 : Int) (i38 : Int) (i39 : Int) (i40 : Int) =>
                        .done ((.ret ((.tup [(.agg [(.int .u64 i37), (.int .u64 i38), (.int .u64 i39), (.int .u64 i40)]), (.int .i64 (0 : Int))]), (.agg [.no, .no]))), ⟨[[((.str s21), .no), ((.int .i64 i22), .no)]], ([] : List Nat)⟩))
                         (.fail)))
                     (.fail))
                  (.call 20 0 [(.int .u64 (0 : Int)), (.int .u64 (0 : Int)), (.int .u64 (0 : Int)), (.int .u64 (0 : Int)), (.int .u8 r10), (.int .u8 r10)] fun o =>
                    outT o20x0 o (fun (i41 : Int) (i42 : Int) (i43 : Int) (i44 : Int) =>
                    .done ((.ret ((.tup [(.agg [(.int .u64 i41), (.int .u64 i42), (.int .u64 i43), (.int .u64 i44)]), (.int .i64 (0 : Int))]), (.agg [.no, .no]))), ⟨[[((.str s17), .no), ((.int .i64 i18), .no)]], ([] : List Nat)⟩))
                     (.fail)))
                 (.fail))
              (.call 20 0 [(.int .u64 (0 : Int)), (.int .u64 (0 : Int)), (.int .u64 (0 : Int)), (.int .u64 (0 : Int)), (.int .u8 r10), (.int .u8 r10)] fun o =>
                outT o20x0 o (fun (i45 : Int) (i46 : Int) (i47 : Int) (i48 : Int) =>
                .done ((.ret ((.tup [(.agg [(.int .u64 i45), (.int .u64 i46), (.int .u64 i47), (.int .u64 i48)]), (.int .i64 (0 : Int))]), (.agg [.no, .no]))), ⟨[[((.str s14), .no), ((.int .i64 i15), .no)]], ([] : List Nat)⟩))
                 (.fail)))
             (.fail)))
         (.fail)))
     (.fail)
set_option maxRecDepth 20000 in
theorem e28x0 (call : CallFn) (s0 : List UInt8) (i1 : Int) : lay.tree call 28 d28 0 [(.str s0), (.int .i64 i1)] = t28x0 s0 i1 := by kernel_rfl
theorem s28x0 (i0 : Int) (i1 : Int) (i2 : Int) (i3 : Int) (i4 : Int) (s5 : List UInt8) (i6 : Int) (g : Int → Int → Int → Int → Int → List UInt8 → Int → Tree) (els : Tree) : outT o28x0 ((.ret ((.tup [(.agg [(.int .u64 i0), (.int .u64 i1), (.int .u64 i2), (.int .u64 i3)]), (.int .i64 i4)]), (.agg [.no, .no]))), ⟨[[((.str s5), .no), ((.int .i64 i6), .no)]], ([] : List Nat)⟩) g els = .need (([] : List Nat) = ([] : List Nat)) (g i0 i1 i2 i3 i4 s5 i6) := rfl
/-! internal/stringslite.IndexByte -/
noncomputable def t31x0 (s0 : List UInt8) (i1 : Int) : Tree :=
  .nm (Go.Lib.indexByte s0 (Nat.toUInt8 (Int.toNat i1))) fun (r2 : Int) =>
  .done ((.ret ((.int .i64 r2), .no)), ⟨[], ([] : List Nat)⟩)
set_option maxRecDepth 20000 in
theorem e31x0 (call : CallFn) (s0 : List UInt8) (i1 : Int) : lay.tree call 31 d31 0 [(.str s0), (.int .u8 i1)] = t31x0 s0 i1 := by kernel_rfl
theorem s31x0 (i0 : Int) (g : Int → Tree) (els : Tree) : outT o31x0 ((.ret ((.int .i64 i0), .no)), ⟨[], ([] : List Nat)⟩) g els = .need (([] : List Nat) = ([] : List Nat)) (g i0) := rfl
/-! strings.HasPrefix -/
noncomputable def t32x0 (s0 : List UInt8) (s1 : List UInt8) : Tree :=
  .call 37 0 [(.str s0), (.str s1)] fun o =>
    outT o37x0 o (fun (b2 : Bool) =>
    .done ((.ret ((.bool b2), .no)), ⟨[], ([] : List Nat)⟩))
     (.fail)
set_option maxRecDepth 20000 in
theorem e32x0 (call : CallFn) (s0 : List UInt8) (s1 : List UInt8) : lay.tree call 32 d32 0 [(.str s0), (.str s1)] = t32x0 s0 s1 := by kernel_rfl
theorem s32x0 (b0 : Bool) (g : Bool → Tree) (els : Tree) : outT o32x0 ((.ret ((.bool b0), .no)), ⟨[], ([] : List Nat)⟩) g els = .need (([] : List Nat) = ([] : List Nat)) (g b0) := rfl
/-! (*auklet/class.reader).single -/
noncomputable def t34x0 (s0 : List UInt8) (i1 : Int) : Tree :=
  .call 27 0 [(.str ([92] : List UInt8)), (.str s0), (.int .i64 i1)] fun o =>
    outT o27x0 o (fun (b2 : Bool) (s3 : List UInt8) (i4 : Int) =>
    .ite b2 (.nm (Go.IntKind.wrap .i64 (i4 + (1 : Int))) fun (r5 : Int) =>
      .nm (((List.length s3) : Nat) : Int) fun (r6 : Int) =>
      .nm (r5 == r6) fun (b7 : Bool) =>
      .ite b7 (.done ((.ret ((.tup [(.int .u8 (0 : Int)), (.bool Bool.false)]), (.agg [.no, .no]))), ⟨[[((.str s3), .no), ((.int .i64 r5), .no)]], ([] : List Nat)⟩))
        (.nm (Go.IntKind.wrap .i64 (r5 + (1 : Int))) fun (r8 : Int) =>
        .nm (Go.IntKind.wrap .i64 (r8 - (1 : Int))) fun (r9 : Int) =>
        .bind (byteAt s3 r9) fun (r10 : Int) =>
        .nm (r10 == (110 : Int)) fun (b11 : Bool) =>
        .ite b11 (.done ((.ret ((.tup [(.int .u8 (10 : Int)), (.bool Bool.true)]), (.agg [.no, .no]))), ⟨[[((.str s3), .no), ((.int .i64 r8), .no)]], ([] : List Nat)⟩))
          (.nm (r10 == (116 : Int)) fun (b12 : Bool) =>
          .ite b12 (.done ((.ret ((.tup [(.int .u8 (9 : Int)), (.bool Bool.true)]), (.agg [.no, .no]))), ⟨[[((.str s3), .no), ((.int .i64 r8), .no)]], ([] : List Nat)⟩))
            (.done ((.ret ((.tup [(.int .u8 r10), (.bool Bool.true)]), (.agg [.no, .no]))), ⟨[[((.str s3), .no), ((.int .i64 r8), .no)]], ([] : List Nat)⟩)))))
      (.nm (((List.length s3) : Nat) : Int) fun (r13 : Int) =>
      .nm (i4 == r13) fun (b14 : Bool) =>
      .ite b14 (.done ((.ret ((.tup [(.int .u8 (0 : Int)), (.bool Bool.false)]), (.agg [.no, .no]))), ⟨[[((.str s3), .no), ((.int .i64 i4), .no)]], ([] : List Nat)⟩))
        (.nm (Go.IntKind.wrap .i64 (i4 + (1 : Int))) fun (r15 : Int) =>
        .nm (Go.IntKind.wrap .i64 (r15 - (1 : Int))) fun (r16 : Int) =>
        .bind (byteAt s3 r16) fun (r17 : Int) =>
        .done ((.ret ((.tup [(.int .u8 r17), (.bool Bool.true)]), (.agg [.no, .no]))), ⟨[[((.str s3), .no), ((.int .i64 r15), .no)]], ([] : List Nat)⟩))))
     (.fail)
set_option maxRecDepth 20000 in
theorem e34x0 (call : CallFn) (s0 : List UInt8) (i1 : Int) : lay.tree call 34 d34 0 [(.str s0), (.int .i64 i1)] = t34x0 s0 i1 := by kernel_rfl
theorem s34x0 (i0 : Int) (b1 : Bool) (s2 : List UInt8) (i3 : Int) (g : Int → Bool → List UInt8 → Int → Tree) (els : Tree) : outT o34x0 ((.ret ((.tup [(.int .u8 i0), (.bool b1)]), (.agg [.no, .no]))), ⟨[[((.str s2), .no), ((.int .i64 i3), .no)]], ([] : List Nat)⟩) g els = .need (([] : List Nat) = ([] : List Nat)) (g i0 b1 s2 i3) := rfl
/-! internal/stringslite.HasPrefix -/
noncomputable def t37x0 (s0 : List UInt8) (s1 : List UInt8) : Tree :=
  .nm (((List.length s0) : Nat) : Int) fun (r2 : Int) =>
  .nm (((List.length s1) : Nat) : Int) fun (r3 : Int) =>
  .nm (decide (r2 ≥ r3)) fun (b4 : Bool) =>
  .ite b4 (.nm (((List.length s1) : Nat) : Int) fun (r5 : Int) =>
    .need (inLo r5 (List.length s0)) <|
    .nm ((List.drop 0 (List.take (Int.toNat r5) s0)) == s1) fun (b6 : Bool) =>
    .done ((.ret ((.bool b6), .no)), ⟨[], ([] : List Nat)⟩))
    (.done ((.ret ((.bool Bool.false), .no)), ⟨[], ([] : List Nat)⟩))
set_option maxRecDepth 20000 in
theorem e37x0 (call : CallFn) (s0 : List UInt8) (s1 : List UInt8) : lay.tree call 37 d37 0 [(.str s0), (.str s1)] = t37x0 s0 s1 := by kernel_rfl
theorem s37x0 (b0 : Bool) (g : Bool → Tree) (els : Tree) : outT o37x0 ((.ret ((.bool b0), .no)), ⟨[], ([] : List Nat)⟩) g els = .need (([] : List Nat) = ([] : List Nat)) (g b0) := rfl
end Go.Proofs.Ytdiphholophdcaa.T
end
section
open Go Go.Ab
/- A SET'S TEXT IS WRITTEN AND READ. -/
namespace Go.Proofs.Ytdiphholophdcaa.T
variable {K : Out → Prop}
theorem tw_needT {f : FuncId} {t : Tree} : (Tree.need True t).wp lay.ev f K ↔ t.wp lay.ev f K := ⟨fun h => h.2, fun h => ⟨trivial, h⟩⟩
/-- a pattern -/
inductive Re where
  | mk (k a b c d mn mx : Int) (l : List Re)
/-! ### the library -/
theorem writeByte_wp {c : Int} {s : List UInt8} (hc : 0 ≤ c ∧ c < 256) (hs : s.length + 1 ≤ Ab.maxLen) (h : K (.ret (.nili, .no), ⟨[[(.bself 51 0, .no), (.buf 5 (s ++ [UInt8.ofNat c.toNat]), .tok 0)]], [(s ++ [UInt8.ofNat c.toNat]).length]⟩)) : lay.Wp 24 0 [.int .u8 c, .buf 5 s] K := by
  refine Lay.wp_of h24 (fun call => e24x0 call c s) ?_
  unfold t24x0
  simp only [tw_need, tw_done, true_and]
  exact ⟨hc, hs, h⟩
theorem bString_wp {s : List UInt8} (hs : s.length ≤ Ab.maxLen) (h : K (.ret (.str s, .no), ⟨[[(.bself 51 0, .no), (.buf 5 s, .tok 0)]], [s.length]⟩)) : lay.Wp 26 0 [.buf 5 s] K := by
  refine Lay.wp_of h26 (fun call => e26x0 call s) ?_
  unfold t26x0
  simp only [tw_need, tw_nm, tw_done, true_and]
  exact ⟨hs, h⟩
theorem hasPrefix_wp {s t : List UInt8} (h : K (.ret (.bool (decide (t <+: s)), .no), ⟨[], []⟩)) : lay.Wp 32 0 [.str s, .str t] K := by
  refine Lay.wp_of h32 (fun call => e32x0 call _ _) ?_
  unfold t32x0
  simp only [tw_callT]
  refine Lay.wp_of h37 (fun call => e37x0 call _ _) ?_
  unfold t37x0
  simp only [tw_nm, tw_ite, tw_need, tw_done, s37x0, tw_needR, true_and, List.drop_zero, Int.toNat_natCast]
  by_cases hl : t.length ≤ s.length
  · rw [if_pos (by simp; omega)]
    refine ⟨⟨by omega, by omega⟩, ?_⟩
    have e : (List.take t.length s == t) = decide (t <+: s) := by
      rw [Bool.eq_iff_iff, beq_iff_eq, decide_eq_true_eq, List.prefix_iff_eq_take]
      exact eq_comm
    rw [e]; exact h
  · rw [if_neg (by simp; omega)]
    have e : decide (t <+: s) = false := by
      rw [decide_eq_false_iff_not]
      intro hp; exact hl hp.length_le
    rw [e] at h; exact h
theorem indexByte_wp {s : List UInt8} {c : UInt8} (h : ∀ r : Int, ((0 ≤ r) ↔ c ∈ s) → K (.ret (.int .i64 r, .no), ⟨[], []⟩)) : lay.Wp 25 0 [.str s, .int .u8 ((c.toNat : Nat) : Int)] K := by
  refine Lay.wp_of h25 (fun call => e25x0 call _ _) ?_
  unfold t25x0
  simp only [tw_callT]
  refine Lay.wp_of h31 (fun call => e31x0 call _ _) ?_
  unfold t31x0
  simp only [tw_nm, tw_done, s31x0, tw_needR, tw_needT]
  have e : Nat.toUInt8 (Int.toNat ((c.toNat : Nat) : Int)) = c := by simp
  rw [e]
  refine h _ ?_
  have := Go.Lib.contains_iff_indexByte s c
  rw [← decide_eq_true_eq (p := 0 ≤ Go.Lib.indexByte s c), ← this]
  simp
/-! ### sets of one byte -/
def wd (j : Nat) (c : UInt8) : Int := if c.toNat / 64 = j then ((2 ^ (c.toNat % 64) : Nat) : Int) else 0
theorem wrapU64 {n : Nat} (h : n < 18446744073709551616) : IntKind.wrap .u64 ((n : Nat) : Int) = ((n : Nat) : Int) := by
  simp [IntKind.wrap, IntKind.signed, IntKind.bits]; omega
theorem orI_nat {x y : Nat} (hx : x < 18446744073709551616) (hy : y < 18446744073709551616) : orI .u64 ((x : Nat) : Int) ((y : Nat) : Int) = ((x ||| y : Nat) : Int) := by
  have hb : (BitVec.ofInt 64 ((x : Nat) : Int) ||| BitVec.ofInt 64 ((y : Nat) : Int)).toNat = x ||| y := by
    rw [BitVec.toNat_or, BitVec.toNat_ofInt, BitVec.toNat_ofInt]
    congr 1 <;> omega
  unfold orI
  rw [show IntKind.bits .u64 = 64 from rfl, hb]
  exact wrapU64 (Nat.or_lt_two_pow (n := 64) hx hy)
theorem pow_lt64 (n : Nat) : (2 ^ (n % 64) : Nat) < 18446744073709551616 := by
  have h : n % 64 < 64 := Nat.mod_lt _ (by decide)
  calc 2 ^ (n % 64) < 2 ^ 64 := Nat.pow_lt_pow_right (by decide) h
    _ = 18446744073709551616 := by decide
theorem add133 {c : UInt8} (h : K (.ret (.agg [.int .u64 (wd 0 c), .int .u64 (wd 1 c), .int .u64 (wd 2 c), .int .u64 (wd 3 c)], .no), ⟨[], []⟩)) :
    lay.Wp 20 0 [.int .u64 0, .int .u64 0, .int .u64 0, .int .u64 0, .int .u8 ((c.toNat : Nat) : Int), .int .u8 ((c.toNat : Nat) : Int)] K := by
  have hn : c.toNat < 256 := c.toNat_lt
  unfold wd at h
  generalize c.toNat = n at hn h
  have w1 : IntKind.wrap .i64 ((n : Nat) : Int) = ((n : Nat) : Int) := wrap64 (by omega) (by omega)
  have w2 : IntKind.wrap .i64 (((n : Nat) : Int) + 1) = ((n + 1 : Nat) : Int) := by rw [wrap64 (by omega) (by omega)]; omega
  have d1 : IntKind.wrap .i64 (Int.tdiv ((n : Nat) : Int) 64) = ((n / 64 : Nat) : Int) := by
    have : Int.tdiv ((n : Nat) : Int) 64 = ((n / 64 : Nat) : Int) := rfl
    rw [this, wrap64 (by omega) (by omega)]
  have d2 : Int.tmod ((n : Nat) : Int) 64 = ((n % 64 : Nat) : Int) := rfl
  have p1 : IntKind.wrap .u64 ((1 : Int) * ((2 : Int) ^ (Min.min (Int.toNat ((n % 64 : Nat) : Int)) 64))) = ((2 ^ (n % 64) : Nat) : Int) := by
    rw [Int.toNat_natCast, Nat.min_eq_left (by omega), Int.one_mul]
    have : ((2 : Int) ^ (n % 64)) = ((2 ^ (n % 64) : Nat) : Int) := by norm_cast
    rw [this, wrapU64 (pow_lt64 n)]
  have o1 : orI .u64 (0 : Int) ((2 ^ (n % 64) : Nat) : Int) = ((2 ^ (n % 64) : Nat) : Int) := by
    have := orI_nat (x := 0) (y := 2 ^ (n % 64)) (by decide) (pow_lt64 n)
    rw [Nat.zero_or] at this
    exact this
  refine Lay.wp_of h20 (fun call => e20x0 call _ _ _ _ _ _) ?_
  unfold t20x0
  simp only [w1, tw_nm, tw_jump]
  refine Lay.wp_of h20 (fun call => e20x1 call _ _ _ _ _ _ _ _ _ _) ?_
  unfold t20x1
  simp only [w1, w2, d1, d2, p1, tw_nm, tw_ite, tw_need, tw_jump]
  rw [if_pos (by simp)]
  have stop : ∀ (a b c d : Int), K (.ret (.agg [.int .u64 a, .int .u64 b, .int .u64 c, .int .u64 d], .no), ⟨[], []⟩) → lay.Wp 20 1 [.int .u8 ((n : Nat) : Int), .int .i64 ((n + 1 : Nat) : Int), .int .u64 a, .int .u64 b, .int .u64 c, .int .u64 d, .int .u64 0, .int .u64 0, .int .u64 0, .int .u64 0] K := by
    intro a b c d hh
    refine Lay.wp_of h20 (fun call => e20x1 call _ _ _ _ _ _ _ _ _ _) ?_
    unfold t20x1
    simp only [w1, tw_nm, tw_ite, tw_done]
    rw [if_neg (by simp; omega)]
    exact hh
  have hj : n / 64 = 0 ∨ n / 64 = 1 ∨ n / 64 = 2 ∨ n / 64 = 3 := by omega
  rcases hj with e | e | e | e <;>
  · rw [e] at h ⊢
    refine ⟨by simp [nonzero], ⟨by omega, by omega⟩, _, rfl, ?_⟩
    simp only [openC_int, openC_nil, tw_nm, tw_need, d2, p1, o1]
    refine ⟨by simp [nonzero], by simp [nonneg]; omega, ⟨by omega, by omega⟩, by decide, _, rfl, ?_⟩
    simp only [openC_int, openC_nil, tw_nm, tw_jump]
    exact stop _ _ _ _ (by simpa using h)
/-! ### bytes that come -/
abbrev rd (s : List UInt8) (p : Nat) : St := ⟨[[(.str s, .no), (.int .i64 (p : Nat), .no)]], []⟩
abbrev Re.nil : Re := .mk 0 0 0 0 0 0 0 []
theorem neByte {c d : UInt8} {k : Int} (hk : ((d.toNat : Nat) : Int) = k) (h : c ≠ d) : (((c.toNat : Nat) : Int) == k) = false := by
  rw [← Bool.not_eq_true, byteEq (b := c) d hk]; exact h
/-! ### sets -/
def wordN (a b c d : Nat) (j : Nat) : Nat := if j = 0 then a else if j = 1 then b else if j = 2 then c else d
def hasN (a b c d : Nat) (n : Nat) : Bool := (wordN a b c d (n / 64)).testBit (n % 64)
theorem bitInt (x m : Nat) (hx : x < 18446744073709551616) (hm : m < 64) : (andI .u64 (Int.fdiv ((x : Nat) : Int) ((2 : Int) ^ (Min.min (Int.toNat ((m : Nat) : Int)) 64))) 1 == 1) = x.testBit m := by
  rw [Int.toNat_natCast, Nat.min_eq_left (by omega)]
  have e1 : ((2 : Int) ^ m) = ((2 ^ m : Nat) : Int) := by norm_cast
  have e2 : Int.fdiv ((x : Nat) : Int) ((2 ^ m : Nat) : Int) = ((x / 2 ^ m : Nat) : Int) := by
    rw [Int.fdiv_eq_ediv_of_nonneg _ (Int.natCast_nonneg _)]; rfl
  rw [e1, e2]
  have hd : x / 2 ^ m < 18446744073709551616 := Nat.lt_of_le_of_lt (Nat.div_le_self _ _) hx
  have hb : (BitVec.ofInt 64 ((x / 2 ^ m : Nat) : Int) &&& BitVec.ofInt 64 1).toNat = x / 2 ^ m % 2 := by
    rw [BitVec.toNat_and, BitVec.toNat_ofInt, BitVec.toNat_ofInt]
    have q1 : ((((x / 2 ^ m : Nat) : Int) % ((2 ^ 64 : Nat) : Int)).toNat) = x / 2 ^ m := by
      have : ((2 ^ 64 : Nat) : Int) = 18446744073709551616 := rfl
      generalize x / 2 ^ m = y at *
      omega
    have q2 : ((1 : Int) % ((2 ^ 64 : Nat) : Int)).toNat = 1 := rfl
    rw [q1, q2, Nat.and_one_is_mod]
  unfold andI
  rw [show IntKind.bits .u64 = 64 from rfl, hb, wrapU64 (by omega), Nat.testBit_eq_decide_div_mod_eq, Bool.eq_iff_iff, beq_iff_eq, decide_eq_true_eq]
  omega
theorem has_wp {a b c d n : Nat} (ha : a < 18446744073709551616) (hb : b < 18446744073709551616) (hc : c < 18446744073709551616) (hd : d < 18446744073709551616) (hn : n < 256) (h : K (.ret (.bool (hasN a b c d n), .no), ⟨[], []⟩)) :
    lay.Wp 19 0 [.int .u64 (a : Nat), .int .u64 (b : Nat), .int .u64 (c : Nat), .int .u64 (d : Nat), .int .u8 (n : Nat)] K := by
  have d1 : IntKind.wrap .u8 (Int.tdiv ((n : Nat) : Int) 64) = ((n / 64 : Nat) : Int) := by
    have : Int.tdiv ((n : Nat) : Int) 64 = ((n / 64 : Nat) : Int) := rfl
    rw [this, IntKind.wrap_u8]; omega
  have d2 : Int.tmod ((n : Nat) : Int) 64 = ((n % 64 : Nat) : Int) := rfl
  unfold hasN at h
  refine Lay.wp_of h19 (fun call => e19x0 call _ _ _ _ _) ?_
  unfold t19x0
  simp only [d1, d2, tw_nm, tw_need]
  have hj : n / 64 = 0 ∨ n / 64 = 1 ∨ n / 64 = 2 ∨ n / 64 = 3 := by omega
  rcases hj with ej | ej | ej | ej <;>
  · rw [ej] at h ⊢
    refine ⟨by simp [nonzero], ⟨by omega, by omega⟩, _, rfl, ?_⟩
    simp only [openC_int, openC_nil, tw_nm, tw_need, tw_done]
    refine ⟨by simp [nonzero], by simp [nonneg]; omega, ?_⟩
    rw [bitInt _ _ (by assumption) (by omega)]
    exact h
theorem not64 {x : Nat} (hx : x < 18446744073709551616) : xorI .u64 ((((2 ^ 64) - 1 : Nat)) : Int) ((x : Nat) : Int) = ((18446744073709551616 - 1 - x : Nat) : Int) := by
  have hb : (BitVec.ofInt 64 (((2 ^ 64) - 1 : Nat) : Int) ^^^ BitVec.ofInt 64 ((x : Nat) : Int)).toNat = 18446744073709551616 - 1 - x := by
    have e : BitVec.ofInt 64 (((2 ^ 64) - 1 : Nat) : Int) = BitVec.allOnes 64 := rfl
    rw [e, BitVec.allOnes_xor, BitVec.toNat_not, BitVec.toNat_ofInt]
    have q1 : ((((x : Nat) : Int) % ((2 ^ 64 : Nat) : Int)).toNat) = x := by
      have : ((2 ^ 64 : Nat) : Int) = 18446744073709551616 := rfl
      omega
    rw [q1]
  unfold xorI
  rw [show IntKind.bits .u64 = 64 from rfl, hb]
  exact wrapU64 (by omega)
theorem not_wp {a b c d : Nat} (ha : a < 18446744073709551616) (hb : b < 18446744073709551616) (hc : c < 18446744073709551616) (hd : d < 18446744073709551616) (h : K (.ret (.agg [.int .u64 ((18446744073709551616 - 1 - a : Nat) : Int), .int .u64 ((18446744073709551616 - 1 - b : Nat) : Int), .int .u64 ((18446744073709551616 - 1 - c : Nat) : Int), .int .u64 ((18446744073709551616 - 1 - d : Nat) : Int)], .no), ⟨[], []⟩)) :
    lay.Wp 21 0 [.int .u64 (a : Nat), .int .u64 (b : Nat), .int .u64 (c : Nat), .int .u64 (d : Nat)] K := by
  refine Lay.wp_of h21 (fun call => e21x0 call _ _ _ _) ?_
  unfold t21x0
  simp only [tw_jump]
  have w : ∀ n : Nat, n < 10 → IntKind.wrap .i64 ((n : Nat) : Int) = ((n : Nat) : Int) := fun n hn => wrap64 (by omega) (by omega)
  have s0 : IntKind.wrap .i64 ((0 : Int) + 1) = 1 := rfl
  have s1 : IntKind.wrap .i64 ((1 : Int) + 1) = 2 := rfl
  have s2 : IntKind.wrap .i64 ((2 : Int) + 1) = 3 := rfl
  have s3 : IntKind.wrap .i64 ((3 : Int) + 1) = 4 := rfl
  refine Lay.wp_of h21 (fun call => e21x1 call _ _ _ _ _ _ _ _ _) ?_
  unfold t21x1
  simp only [s0, tw_nm, tw_ite, tw_need, tw_jump, tw_done]
  rw [if_pos (by decide)]
  refine ⟨⟨by decide, by decide⟩, _, rfl, ?_⟩
  simp only [openC_int, openC_nil, tw_nm, tw_need, not64 ha]
  refine ⟨⟨by decide, by decide⟩, by decide, _, rfl, ?_⟩
  simp only [openC_int, openC_nil, tw_nm, tw_jump]
  refine Lay.wp_of h21 (fun call => e21x1 call _ _ _ _ _ _ _ _ _) ?_
  unfold t21x1
  simp only [s1, tw_nm, tw_ite, tw_need, tw_jump, tw_done]
  rw [if_pos (by decide)]
  refine ⟨⟨by decide, by decide⟩, _, rfl, ?_⟩
  simp only [openC_int, openC_nil, tw_nm, tw_need, not64 hb]
  refine ⟨⟨by decide, by decide⟩, by decide, _, rfl, ?_⟩
  simp only [openC_int, openC_nil, tw_nm, tw_jump]
  refine Lay.wp_of h21 (fun call => e21x1 call _ _ _ _ _ _ _ _ _) ?_
  unfold t21x1
  simp only [s2, tw_nm, tw_ite, tw_need, tw_jump, tw_done]
  rw [if_pos (by decide)]
  refine ⟨⟨by decide, by decide⟩, _, rfl, ?_⟩
  simp only [openC_int, openC_nil, tw_nm, tw_need, not64 hc]
  refine ⟨⟨by decide, by decide⟩, by decide, _, rfl, ?_⟩
  simp only [openC_int, openC_nil, tw_nm, tw_jump]
  refine Lay.wp_of h21 (fun call => e21x1 call _ _ _ _ _ _ _ _ _) ?_
  unfold t21x1
  simp only [s3, tw_nm, tw_ite, tw_need, tw_jump, tw_done]
  rw [if_pos (by decide)]
  refine ⟨⟨by decide, by decide⟩, _, rfl, ?_⟩
  simp only [openC_int, openC_nil, tw_nm, tw_need, not64 hd]
  refine ⟨⟨by decide, by decide⟩, by decide, _, rfl, ?_⟩
  simp only [openC_int, openC_nil, tw_nm, tw_jump]
  refine Lay.wp_of h21 (fun call => e21x1 call _ _ _ _ _ _ _ _ _) ?_
  unfold t21x1
  simp only [tw_nm, tw_ite, tw_need, tw_jump, tw_done]
  rw [if_neg (by decide)]
  exact h
/-! ### a set's text -/
def strokesL : List UInt8 := [94, 45, 93, 91, 92]
def encC (n : Nat) : List UInt8 := if UInt8.ofNat n ∈ strokesL then [92, UInt8.ofNat n] else [UInt8.ofNat n]
def clsL (f : Nat → Bool) : Nat → Nat → List UInt8
  | 0, _ => []
  | m + 1, i => (if f i then encC i else []) ++ clsL f m (i + 1)
theorem clsL_len (f : Nat → Bool) : ∀ m i, (clsL f m i).length ≤ 2 * m
  | 0, i => by simp [clsL]
  | m + 1, i => by
    have h1 := clsL_len f m (i + 1)
    have h2 : (if f i then encC i else []).length ≤ 2 := by
      split
      · unfold encC; split <;> simp
      · simp
    simp only [clsL, List.length_append]; omega
def clsText (a b c d : Nat) : List UInt8 := if a = 0 ∧ b = 0 ∧ c = 0 ∧ d = 0 then [91, 94] ++ clsL (fun _ => true) 256 0 ++ [93] else [91] ++ clsL (hasN a b c d) 256 0 ++ [93]
theorem clsText_len (a b c d : Nat) : (clsText a b c d).length ≤ 520 := by
  unfold clsText
  split
  · have := clsL_len (fun _ => true) 256 0; simp; omega
  · have := clsL_len (hasN a b c d) 256 0; simp; omega
theorem clsL_congr {f g : Nat → Bool} : ∀ m i, (∀ n, i ≤ n → n < i + m → f n = g n) → clsL f m i = clsL g m i
  | 0, i, h => rfl
  | m + 1, i, h => by
    simp only [clsL]
    rw [h i (by omega) (by omega), clsL_congr m (i + 1) fun n h1 h2 => h n (by omega) (by omega)]
theorem has_all (n : Nat) (hn : n < 256) : hasN (18446744073709551616 - 1) (18446744073709551616 - 1) (18446744073709551616 - 1) (18446744073709551616 - 1) n = true := by
  have key : ∀ n, n < 256 → hasN (18446744073709551616 - 1) (18446744073709551616 - 1) (18446744073709551616 - 1) (18446744073709551616 - 1) n = true := by decide +kernel
  exact key n hn
theorem cls_loop {a b c d : Nat} (ha : a < 18446744073709551616) (hb : b < 18446744073709551616) (hc : c < 18446744073709551616) (hd : d < 18446744073709551616) {b0 : Bool} : ∀ (m i : Nat) (acc : List UInt8), i + m = 256 → acc.length ≤ 2 * i + 2 → K (.ret (.str (acc ++ clsL (hasN a b c d) m i ++ [93]), .no), ⟨[], []⟩) →
    lay.Wp 15 1 [.bool b0, .int .i64 (i : Nat), .int .u64 (a : Nat), .int .u64 (b : Nat), .int .u64 (c : Nat), .int .u64 (d : Nat), .buf 5 acc] K := by
  intro m
  have hk : Ab.maxLen = 4294967296 := rfl
  induction m with
  | zero =>
    intro i acc hi hacc h
    refine Lay.wp_of h15 (fun call => e15x1 call _ _ _ _ _ _ _) ?_
    unfold t15x1
    simp only [tw_nm, tw_ite, tw_needR, tw_needT, true_and, tw_need, tw_callT]
    rw [if_neg (by simp; omega)]
    refine writeByte_wp (by omega) (by omega) ?_
    simp only [s24x0, tw_needR, tw_needT, true_and, tw_need, tw_callT]
    refine bString_wp (by simp; omega) ?_
    simp only [s26x0, tw_needR, tw_needT, true_and, tw_need, tw_done]
    simpa [clsL] using h
  | succ m ih =>
    intro i acc hi hacc h
    have w1 : IntKind.wrap .i64 (((i : Nat) : Int) + 1) = ((i + 1 : Nat) : Int) := by rw [wrap64 (by omega) (by omega)]; omega
    have w8 : IntKind.wrap .u8 ((i : Nat) : Int) = ((i : Nat) : Int) := by rw [IntKind.wrap_u8]; omega
    simp only [clsL] at h
    have hu : ((i : Nat) : Int) = (((UInt8.ofNat i).toNat : Nat) : Int) := by
      have : (UInt8.ofNat i).toNat = i := by simp; omega
      rw [this]
    refine Lay.wp_of h15 (fun call => e15x1 call _ _ _ _ _ _ _) ?_
    unfold t15x1
    simp only [w1, w8, tw_nm, tw_ite, tw_needR, tw_needT, true_and, tw_need, tw_callT, tw_jump]
    rw [if_pos (by simp; omega)]
    refine has_wp ha hb hc hd (by omega) ?_
    simp only [s19x0, tw_needR, tw_needT, true_and, tw_nm, tw_ite, tw_need, tw_callT, tw_jump]
    by_cases c1 : hasN a b c d i = true
    · rw [if_neg (by simp [c1])]
      rw [if_pos c1] at h
      rw [hu]
      refine indexByte_wp (s := strokesL) fun r hr => ?_
      simp only [s25x0, tw_needR, tw_needT, true_and, tw_nm, tw_ite, tw_need, tw_callT]
      rw [← hu]
      by_cases c2 : UInt8.ofNat i ∈ strokesL
      · rw [if_pos (by simpa using hr.2 c2)]
        rw [show encC i = [92, UInt8.ofNat i] from if_pos c2] at h
        refine writeByte_wp (by omega) (by omega) ?_
        simp only [s24x0, tw_needR, tw_needT, true_and, tw_nm, tw_need, tw_callT]
        refine writeByte_wp (by omega) (by simp; omega) ?_
        simp only [s24x0, tw_needR, tw_needT, true_and, tw_nm, tw_need, tw_jump]
        refine ih (i + 1) _ (by omega) (by simp; omega) ?_
        have e92 : UInt8.ofNat (Int.toNat 92) = 92 := rfl
        rw [e92, Int.toNat_natCast]
        simpa using h
      · rw [if_neg (by simp; exact Int.not_le.1 fun e => c2 (hr.1 e))]
        rw [show encC i = [UInt8.ofNat i] from if_neg c2] at h
        refine writeByte_wp (by omega) (by omega) ?_
        simp only [s24x0, tw_needR, tw_needT, true_and, tw_nm, tw_need, tw_jump]
        refine ih (i + 1) _ (by omega) (by simp; omega) ?_
        rw [Int.toNat_natCast]
        simpa using h
    · rw [if_pos (by simpa using c1)]
      rw [if_neg c1, List.nil_append] at h
      exact ih (i + 1) _ (by omega) (by omega) h
theorem cls_wp {a b c d : Nat} (ha : a < 18446744073709551616) (hb : b < 18446744073709551616) (hc : c < 18446744073709551616) (hd : d < 18446744073709551616) (h : K (.ret (.str (clsText a b c d), .no), ⟨[], []⟩)) : lay.Wp 15 0 [.int .u64 (a : Nat), .int .u64 (b : Nat), .int .u64 (c : Nat), .int .u64 (d : Nat)] K := by
  have hk : Ab.maxLen = 4294967296 := rfl
  unfold clsText at h
  refine Lay.wp_of h15 (fun call => e15x0 call _ _ _ _) ?_
  unfold t15x0
  simp only [tw_needR, tw_needT, true_and, tw_callT]
  refine writeByte_wp (by omega) (by simp; omega) ?_
  simp only [s24x0, tw_needR, tw_needT, true_and, tw_nm, tw_ite, tw_need, tw_callT, tw_jump]
  by_cases c1 : a = 0 ∧ b = 0 ∧ c = 0 ∧ d = 0
  · rw [if_pos c1] at h
    obtain ⟨rfl, rfl, rfl, rfl⟩ := c1
    rw [if_pos (by decide)]
    refine writeByte_wp (by omega) (by simp; omega) ?_
    simp only [s24x0, tw_needR, tw_needT, true_and, tw_nm, tw_need, tw_callT]
    refine not_wp (by decide) (by decide) (by decide) (by decide) ?_
    simp only [s21x0, tw_needR, tw_needT, true_and, tw_nm, tw_need, tw_jump]
    refine cls_loop (by decide) (by decide) (by decide) (by decide) 256 0 _ rfl (by simp) ?_
    have e := clsL_congr (f := hasN (18446744073709551616 - 1 - 0) (18446744073709551616 - 1 - 0) (18446744073709551616 - 1 - 0) (18446744073709551616 - 1 - 0)) (g := fun _ => true) 256 0 fun n _ h2 => (by rw [Nat.sub_zero]; exact has_all n (by omega))
    rw [e]
    exact h
  · rw [if_neg c1] at h
    rw [if_neg (by
      intro hh
      simp only [Bool.and_true, Bool.and_eq_true, beq_iff_eq] at hh
      exact c1 ⟨by omega, by omega, by omega, by omega⟩)]
    refine cls_loop ha hb hc hd 256 0 _ rfl (by simp) ?_
    exact h
/-! ### places in a text -/
def At (s : List UInt8) (p : Nat) (r : List UInt8) : Prop := s.drop p = r ∧ p ≤ s.length
theorem At.app {s a r : List UInt8} {p : Nat} (h : At s p (a ++ r)) : At s (p + a.length) r := by
  obtain ⟨h1, h2⟩ := h
  refine ⟨?_, ?_⟩
  · rw [← List.drop_drop, h1, List.drop_left]
  · have := congrArg List.length h1
    simp only [List.length_drop, List.length_append] at this
    omega
theorem At.next {s r : List UInt8} {p : Nat} {c : UInt8} (h : At s p (c :: r)) : At s (p + 1) r := At.app (a := [c]) h
theorem At.le {s r : List UInt8} {p : Nat} (h : At s p r) : p + r.length = s.length := by
  have := congrArg List.length h.1
  have := h.2
  simp only [List.length_drop] at *
  omega
theorem At.pre {s r : List UInt8} {p : Nat} (h : At s p r) : ∃ pre, s = pre ++ r ∧ p = pre.length := by
  refine ⟨s.take p, ?_, ?_⟩
  · rw [← h.1, List.take_append_drop]
  · rw [List.length_take, Nat.min_eq_left h.2]
theorem byteA {s r : List UInt8} {p : Nat} {c : UInt8} (ha : At s p (c :: r)) : byteAt s ((p : Nat) : Int) = some ((c.toNat : Nat) : Int) := by
  obtain ⟨pre, rfl, rfl⟩ := ha.pre
  exact byteAt_app pre c r
/-! ### whether a text comes -/
theorem comesA {s t r : List UInt8} {p : Nat} (ha : At s p r) (h : K (.ret (.bool (decide (t <+: r)), .no), rd s p)) : lay.Wp 27 0 [.str t, .str s, .int .i64 (p : Nat)] K := by
  have hl := ha.2
  have e : List.drop (Int.toNat ((p : Nat) : Int)) (List.take s.length s) = r := by rw [List.take_length, Int.toNat_natCast]; exact ha.1
  refine Lay.wp_of h27 (fun call => e27x0 call _ _ _) ?_
  unfold t27x0
  simp only [tw_need, tw_callT, e]
  refine ⟨⟨by omega, by omega⟩, hasPrefix_wp ?_⟩
  simp only [s32x0, tw_needR, tw_needT, true_and, tw_done]
  exact h
theorem pref_no {k : UInt8} {t r : List UInt8} (h : r.head? ≠ some k) : decide (k :: t <+: r) = false := by
  rw [decide_eq_false_iff_not]
  rintro ⟨q, rfl⟩
  exact h rfl
theorem comesN {s t r : List UInt8} {p : Nat} {k : UInt8} (ha : At s p r) (hr : r.head? ≠ some k) (h : K (.ret (.bool false, .no), rd s p)) : lay.Wp 27 0 [.str (k :: t), .str s, .int .i64 (p : Nat)] K := by
  refine comesA ha ?_
  rw [pref_no hr]; exact h
theorem comesY {s r : List UInt8} {p : Nat} {k : UInt8} (ha : At s p (k :: r)) (h : K (.ret (.bool true, .no), rd s p)) : lay.Wp 27 0 [.str [k], .str s, .int .i64 (p : Nat)] K := by
  refine comesA ha ?_
  have e : decide ([k] <+: k :: r) = true := decide_eq_true ⟨r, rfl⟩
  rw [e]; exact h
/-! ### a byte -/
theorem encC_head (n : Nat) : ∃ c q, encC n = c :: q ∧ (c = 92 ∨ c ∉ strokesL) := by
  unfold encC
  split
  · exact ⟨92, _, rfl, .inl rfl⟩
  · rename_i h; exact ⟨_, [], rfl, .inr h⟩
theorem encC_ne {n : Nat} {r : List UInt8} {k : UInt8} (h1 : k ≠ 92) (h2 : k ∈ strokesL) : (encC n ++ r).head? ≠ some k := by
  obtain ⟨c, q, e, hc⟩ := encC_head n
  rw [e]
  intro hh
  have : c = k := by simpa using hh
  subst this
  rcases hc with hc | hc
  · exact h1 hc
  · exact hc h2
theorem singleA {s r : List UInt8} {p n : Nat} (hs : s.length ≤ 1000000000000000000) (ha : At s p (encC n ++ r))
    (h : K (.ret (.tup [.int .u8 (((UInt8.ofNat n).toNat : Nat) : Int), .bool true], .agg [.no, .no]), rd s (p + (encC n).length))) : lay.Wp 34 0 [.str s, .int .i64 (p : Nat)] K := by
  have hle := ha.le
  unfold encC at ha h hle
  have w1 : IntKind.wrap .i64 (((p : Nat) : Int) + 1) = ((p + 1 : Nat) : Int) := by rw [wrap64 (by omega) (by omega)]; omega
  have w2 : IntKind.wrap .i64 (((p + 1 : Nat) : Int) + 1) = ((p + 2 : Nat) : Int) := by rw [wrap64 (by omega) (by omega)]; omega
  have w3 : IntKind.wrap .i64 (((p + 1 : Nat) : Int) - 1) = ((p : Nat) : Int) := by rw [wrap64 (by omega) (by omega)]; omega
  have w4 : IntKind.wrap .i64 (((p + 2 : Nat) : Int) - 1) = ((p + 1 : Nat) : Int) := by rw [wrap64 (by omega) (by omega)]; omega
  refine Lay.wp_of h34 (fun call => e34x0 call _ _) ?_
  unfold t34x0
  simp only [tw_callT]
  by_cases c1 : UInt8.ofNat n ∈ strokesL
  · rw [if_pos c1] at ha h hle
    have ha1 : At s (p + 1) (UInt8.ofNat n :: r) := At.next ha
    have n1 := neByte (k := 110) (c := UInt8.ofNat n) (d := 110) rfl (fun e => by rw [e] at c1; revert c1; decide)
    have n2 := neByte (k := 116) (c := UInt8.ofNat n) (d := 116) rfl (fun e => by rw [e] at c1; revert c1; decide)
    have hlen := ha1.le
    have z : (((p + 1 : Nat) : Int) == ((s.length : Nat) : Int)) = false := by
      rw [beq_eq_false_iff_ne]; simp only [List.length_cons] at hlen; omega
    refine comesY ha ?_
    simp only [s27x0, w1, w2, w4, z, n1, n2, byteA ha1, tw_needR, tw_needT, true_and, tw_nm, tw_iteT, tw_iteF, tw_bindS, tw_done]
    exact h
  · rw [if_neg c1] at ha h hle
    have hlen := ha.le
    have z : (((p : Nat) : Int) == ((s.length : Nat) : Int)) = false := by
      rw [beq_eq_false_iff_ne]; simp only [List.length_cons, List.length_append] at hlen; omega
    have hb : byteAt s ((p : Nat) : Int) = some (((UInt8.ofNat n).toNat : Nat) : Int) := byteA (r := r) ha
    refine comesN (k := 92) ha (fun hh => c1 ?_) ?_
    · have : UInt8.ofNat n = 92 := by simpa using hh
      rw [this]; decide
    simp only [s27x0, w1, w3, z, hb, tw_needR, tw_needT, true_and, tw_nm, tw_iteF, tw_bindS, tw_done]
    exact h
theorem itemA {s r : List UInt8} {p n : Nat} (hs : s.length ≤ 1000000000000000000) (hr : r.head? ≠ some 45) (ha : At s p (encC n ++ r))
    (h : K (.ret (.tup [.agg [.int .u64 (wd 0 (UInt8.ofNat n)), .int .u64 (wd 1 (UInt8.ofNat n)), .int .u64 (wd 2 (UInt8.ofNat n)), .int .u64 (wd 3 (UInt8.ofNat n))], .int .i64 0], .agg [.no, .no]), rd s (p + (encC n).length))) : lay.Wp 28 0 [.str s, .int .i64 (p : Nat)] K := by
  refine Lay.wp_of h28 (fun call => e28x0 call _ _) ?_
  unfold t28x0
  simp only [tw_callT]
  refine comesN (k := 91) ha (encC_ne (by decide) (by decide)) ?_
  simp only [s27x0, tw_needR, tw_needT, true_and, tw_nm, tw_iteF, tw_callT]
  refine singleA hs ha ?_
  simp only [s34x0, Bool.not_true, tw_needR, tw_needT, true_and, tw_nm, tw_iteF, tw_callT]
  refine comesN (k := 45) (At.app ha) hr ?_
  simp only [s27x0, tw_needR, tw_needT, true_and, tw_nm, tw_iteF, tw_callT]
  refine add133 ?_
  simp only [s20x0, tw_needR, tw_needT, true_and, tw_done]
  exact h
/-! ### sets put together -/
theorem union_wp {a b c d a2 b2 c2 d2 : Nat} (ha : a < 18446744073709551616) (hb : b < 18446744073709551616) (hc : c < 18446744073709551616) (hd : d < 18446744073709551616)
    (ha2 : a2 < 18446744073709551616) (hb2 : b2 < 18446744073709551616) (hc2 : c2 < 18446744073709551616) (hd2 : d2 < 18446744073709551616)
    (h : K (.ret (.agg [.int .u64 ((a ||| a2 : Nat) : Int), .int .u64 ((b ||| b2 : Nat) : Int), .int .u64 ((c ||| c2 : Nat) : Int), .int .u64 ((d ||| d2 : Nat) : Int)], .no), ⟨[], []⟩)) :
    lay.Wp 22 0 [.int .u64 (a : Nat), .int .u64 (b : Nat), .int .u64 (c : Nat), .int .u64 (d : Nat), .int .u64 (a2 : Nat), .int .u64 (b2 : Nat), .int .u64 (c2 : Nat), .int .u64 (d2 : Nat)] K := by
  refine Lay.wp_of h22 (fun call => e22x0 call _ _ _ _ _ _ _ _) ?_
  unfold t22x0
  simp only [tw_jump]
  have s0 : IntKind.wrap .i64 ((0 : Int) + 1) = 1 := rfl
  have s1 : IntKind.wrap .i64 ((1 : Int) + 1) = 2 := rfl
  have s2 : IntKind.wrap .i64 ((2 : Int) + 1) = 3 := rfl
  have s3 : IntKind.wrap .i64 ((3 : Int) + 1) = 4 := rfl
  refine Lay.wp_of h22 (fun call => e22x1 call _ _ _ _ _ _ _ _ _ _ _ _ _) ?_
  unfold t22x1
  simp only [s0, tw_nm, tw_ite, tw_need, tw_jump, tw_done]
  rw [if_pos (by decide)]
  refine ⟨⟨by decide, by decide⟩, _, rfl, ?_⟩
  simp only [openC_int, openC_nil, tw_nm, tw_need]
  refine ⟨⟨by decide, by decide⟩, _, rfl, ?_⟩
  simp only [openC_int, openC_nil, tw_nm, tw_need, orI_nat ha ha2]
  refine ⟨⟨by decide, by decide⟩, by decide, _, rfl, ?_⟩
  simp only [openC_int, openC_nil, tw_nm, tw_jump]
  refine Lay.wp_of h22 (fun call => e22x1 call _ _ _ _ _ _ _ _ _ _ _ _ _) ?_
  unfold t22x1
  simp only [s1, tw_nm, tw_ite, tw_need, tw_jump, tw_done]
  rw [if_pos (by decide)]
  refine ⟨⟨by decide, by decide⟩, _, rfl, ?_⟩
  simp only [openC_int, openC_nil, tw_nm, tw_need]
  refine ⟨⟨by decide, by decide⟩, _, rfl, ?_⟩
  simp only [openC_int, openC_nil, tw_nm, tw_need, orI_nat hb hb2]
  refine ⟨⟨by decide, by decide⟩, by decide, _, rfl, ?_⟩
  simp only [openC_int, openC_nil, tw_nm, tw_jump]
  refine Lay.wp_of h22 (fun call => e22x1 call _ _ _ _ _ _ _ _ _ _ _ _ _) ?_
  unfold t22x1
  simp only [s2, tw_nm, tw_ite, tw_need, tw_jump, tw_done]
  rw [if_pos (by decide)]
  refine ⟨⟨by decide, by decide⟩, _, rfl, ?_⟩
  simp only [openC_int, openC_nil, tw_nm, tw_need]
  refine ⟨⟨by decide, by decide⟩, _, rfl, ?_⟩
  simp only [openC_int, openC_nil, tw_nm, tw_need, orI_nat hc hc2]
  refine ⟨⟨by decide, by decide⟩, by decide, _, rfl, ?_⟩
  simp only [openC_int, openC_nil, tw_nm, tw_jump]
  refine Lay.wp_of h22 (fun call => e22x1 call _ _ _ _ _ _ _ _ _ _ _ _ _) ?_
  unfold t22x1
  simp only [s3, tw_nm, tw_ite, tw_need, tw_jump, tw_done]
  rw [if_pos (by decide)]
  refine ⟨⟨by decide, by decide⟩, _, rfl, ?_⟩
  simp only [openC_int, openC_nil, tw_nm, tw_need]
  refine ⟨⟨by decide, by decide⟩, _, rfl, ?_⟩
  simp only [openC_int, openC_nil, tw_nm, tw_need, orI_nat hd hd2]
  refine ⟨⟨by decide, by decide⟩, by decide, _, rfl, ?_⟩
  simp only [openC_int, openC_nil, tw_nm, tw_jump]
  refine Lay.wp_of h22 (fun call => e22x1 call _ _ _ _ _ _ _ _ _ _ _ _ _) ?_
  unfold t22x1
  simp only [tw_nm, tw_ite, tw_need, tw_jump, tw_done]
  rw [if_neg (by decide)]
  exact h
/-! ### the words of what was read -/
def w1 (j n : Nat) : Nat := if n / 64 = j then 2 ^ (n % 64) else 0
def accW (f : Nat → Bool) (j : Nat) : Nat → Nat
  | 0 => 0
  | i + 1 => if f i then accW f j i ||| w1 j i else accW f j i
theorem w1_lt (j n : Nat) : w1 j n < 18446744073709551616 := by
  unfold w1
  split
  · exact pow_lt64 n
  · decide
theorem accW_lt (f : Nat → Bool) (j : Nat) : ∀ i, accW f j i < 18446744073709551616
  | 0 => by simp [accW]
  | i + 1 => by
    unfold accW
    split
    · exact Nat.or_lt_two_pow (n := 64) (accW_lt f j i) (w1_lt j i)
    · exact accW_lt f j i
theorem wd_w1 {n : Nat} (hn : n < 256) (j : Nat) : wd j (UInt8.ofNat n) = ((w1 j n : Nat) : Int) := by
  have e : (UInt8.ofNat n).toNat = n := by simp; omega
  unfold wd w1
  rw [e]
  split <;> rfl
theorem w1_bit (j n t : Nat) (ht : t < 64) : (w1 j n).testBit t = decide (64 * j + t = n) := by
  unfold w1
  split
  · rename_i h
    rw [Nat.testBit_two_pow, decide_eq_decide]
    omega
  · rename_i h
    rw [Nat.zero_testBit, eq_comm, decide_eq_false_iff_not]
    omega
theorem accW_bit (f : Nat → Bool) (j t : Nat) (ht : t < 64) : ∀ i, (accW f j i).testBit t = (decide (64 * j + t < i) && f (64 * j + t))
  | 0 => by simp [accW]
  | i + 1 => by
    have ih := accW_bit f j t ht i
    unfold accW
    by_cases c : 64 * j + t = i
    · subst c
      split
      · rename_i h; rw [Nat.testBit_or, ih, w1_bit _ _ _ ht, h]; simp
      · rename_i h; rw [ih, Bool.eq_false_iff.2 h]; simp
    · have e : decide (64 * j + t < i + 1) = decide (64 * j + t < i) := by rw [decide_eq_decide]; omega
      rw [e]
      split
      · rw [Nat.testBit_or, ih, w1_bit _ _ _ ht, decide_eq_false c, Bool.or_false]
      · exact ih
theorem accW_word {f : Nat → Bool} {j w : Nat} (hj : j < 4) (hw : w < 18446744073709551616) (h : ∀ t, t < 64 → f (64 * j + t) = w.testBit t) : accW f j 256 = w := by
  apply Nat.eq_of_testBit_eq
  intro t
  by_cases ht : t < 64
  · rw [accW_bit f j t ht, decide_eq_true (by omega), Bool.true_and, h t ht]
  · have p : 18446744073709551616 ≤ 2 ^ t := by
      have : 2 ^ 64 ≤ 2 ^ t := Nat.pow_le_pow_right (by decide) (by omega)
      simpa using this
    rw [Nat.testBit_lt_two_pow (Nat.lt_of_lt_of_le (accW_lt f j 256) p), Nat.testBit_lt_two_pow (Nat.lt_of_lt_of_le hw p)]
theorem hasN_word (a b c d j t : Nat) (ht : t < 64) : hasN a b c d (64 * j + t) = (wordN a b c d j).testBit t := by
  unfold hasN
  have e1 : (64 * j + t) / 64 = j := by omega
  have e2 : (64 * j + t) % 64 = t := by omega
  rw [e1, e2]
theorem clsL_none {f : Nat → Bool} : ∀ m i, clsL f m i = [] → ∀ n, i ≤ n → n < i + m → f n = false
  | 0, i, _, n, h1, h2 => by omega
  | m + 1, i, h, n, h1, h2 => by
    unfold clsL at h
    obtain ⟨ha, hb⟩ := List.append_eq_nil_iff.1 h
    by_cases c : n = i
    · subst c
      cases hf : f n
      · rfl
      · rw [hf, if_pos rfl] at ha
        obtain ⟨c, q, e, _⟩ := encC_head n
        rw [e] at ha; cases ha
    · exact clsL_none m (i + 1) hb n (by omega) (by omega)
theorem clsL_ne {f : Nat → Bool} {r : List UInt8} {k : UInt8} (h1 : k ≠ 92) (h2 : k ∈ strokesL) (hr : r.head? ≠ some k) : ∀ m i, (clsL f m i ++ r).head? ≠ some k
  | 0, i => hr
  | m + 1, i => by
    unfold clsL
    cases hf : f i
    · simpa using clsL_ne h1 h2 hr m (i + 1)
    · rw [if_pos rfl, List.append_assoc]
      exact encC_ne h1 h2
/-! ### all of it -/
def setV (o : Bool) (x : Nat) : Nat := if o then 18446744073709551616 - 1 - x else x
abbrev accV (f : Nat → Bool) (i : Nat) : List AV := [.int .u64 (accW f 0 i : Nat), .int .u64 (accW f 1 i : Nat), .int .u64 (accW f 2 i : Nat), .int .u64 (accW f 3 i : Nat)]
theorem cls_read {s rest : List UInt8} {f : Nat → Bool} {b0 b2 b3 : Bool} {j4 j5 j6 j7 : Int} (hs : s.length ≤ 1000000000000000000) : ∀ (m i p : Nat) (first : Bool), i + m = 256 → (first = true → clsL f m i ≠ []) → At s p (clsL f m i ++ 93 :: rest) →
    K (.ret (.tup [.agg [.int .u64 (setV b0 (accW f 0 256) : Nat), .int .u64 (setV b0 (accW f 1 256) : Nat), .int .u64 (setV b0 (accW f 2 256) : Nat), .int .u64 (setV b0 (accW f 3 256) : Nat)], .int .i64 ((p + (clsL f m i).length + 1 : Nat) : Int), .int .i64 0], .agg [.no, .no, .no]), ⟨[], []⟩) →
    lay.Wp 16 1 ([.bool b0, .bool first, .bool b2, .bool b3, .int .u64 j4, .int .u64 j5, .int .u64 j6, .int .u64 j7, .str s, .int .i64 (p : Nat)] ++ accV f i) K := by
  intro m
  induction m with
  | zero =>
    intro i p first hi hf ha h
    have e : i = 256 := by omega
    subst e
    have hff : first = false := by
      cases first
      · rfl
      · exact (hf rfl rfl).elim
    subst hff
    have hle := ha.le
    have w : IntKind.wrap .i64 (((p : Nat) : Int) + 1) = ((p + 1 : Nat) : Int) := by rw [wrap64 (by omega) (by omega)]; omega
    simp only [clsL, List.nil_append] at ha h
    refine Lay.wp_of h16 (fun call => e16x1 call _ _ _ _ _ _ _ _ _ _ _ _ _ _) ?_
    unfold t16x1
    simp only [tw_iteF, tw_callT]
    refine comesY ha ?_
    simp only [s27x0, Bool.not_true, tw_needR, tw_needT, true_and, tw_nm, tw_iteF]
    cases b0
    · simp only [tw_iteF, w, tw_nm, tw_needR, tw_needT, true_and, tw_done]
      exact h
    · simp only [tw_iteT, tw_callT]
      refine not_wp (accW_lt _ _ _) (accW_lt _ _ _) (accW_lt _ _ _) (accW_lt _ _ _) ?_
      simp only [s21x0, w, tw_nm, tw_needR, tw_needT, true_and, tw_done]
      exact h
  | succ m ih =>
    intro i p first hi hf ha h
    cases hfi : f i
    · have e1 : clsL f (m + 1) i = clsL f m (i + 1) := by simp [clsL, hfi]
      have e2 (j : Nat) : accW f j (i + 1) = accW f j i := by simp [accW, hfi]
      rw [e1] at hf ha h
      have := ih (i + 1) p first (by omega) hf ha h
      simp only [accV, e2] at this
      exact this
    · have e1 : clsL f (m + 1) i = encC i ++ clsL f m (i + 1) := by simp [clsL, hfi]
      have e2 (j : Nat) : accW f j (i + 1) = accW f j i ||| w1 j i := by simp [accW, hfi]
      rw [e1, List.append_assoc] at ha
      rw [e1, List.length_append, ← Nat.add_assoc] at h
      have hn := ih (i + 1) (p + (encC i).length) false (by omega) (by intro hh; cases hh) ha.app h
      simp only [accV, e2] at hn
      have hr : (clsL f m (i + 1) ++ 93 :: rest).head? ≠ some 45 := clsL_ne (by decide) (by decide) (by simp) m (i + 1)
      have hitem := fun K' h' => itemA (K := K') hs hr ha h'
      simp only [wd_w1 (n := i) (by omega)] at hitem
      refine Lay.wp_of h16 (fun call => e16x1 call _ _ _ _ _ _ _ _ _ _ _ _ _ _) ?_
      unfold t16x1
      have z : ((0 : Int) != 0) = false := rfl
      cases first
      · simp only [tw_iteF, tw_callT]
        refine comesN (k := 93) ha (encC_ne (by decide) (by decide)) ?_
        simp only [s27x0, Bool.not_false, tw_needR, tw_needT, true_and, tw_nm, tw_iteT, tw_callT]
        refine hitem _ ?_
        simp only [s28x0, z, tw_needR, tw_needT, true_and, tw_nm, tw_iteF, tw_callT]
        refine union_wp (accW_lt _ _ _) (accW_lt _ _ _) (accW_lt _ _ _) (accW_lt _ _ _) (w1_lt _ _) (w1_lt _ _) (w1_lt _ _) (w1_lt _ _) ?_
        simp only [s22x0, tw_needR, tw_needT, true_and, tw_jump]
        exact hn
      · simp only [tw_iteT, tw_callT]
        refine hitem _ ?_
        simp only [s28x0, z, tw_needR, tw_needT, true_and, tw_nm, tw_iteF, tw_callT]
        refine union_wp (accW_lt _ _ _) (accW_lt _ _ _) (accW_lt _ _ _) (accW_lt _ _ _) (w1_lt _ _) (w1_lt _ _) (w1_lt _ _) (w1_lt _ _) ?_
        simp only [s22x0, tw_needR, tw_needT, true_and, tw_jump]
        exact hn
theorem clsP_wp {s rest : List UInt8} {p a b c d : Nat} (hs : s.length ≤ 1000000000000000000) (ha : a < 18446744073709551616) (hb : b < 18446744073709551616) (hc : c < 18446744073709551616) (hd : d < 18446744073709551616) (hA : At s p (clsText a b c d ++ rest))
    (h : K (.ret (.tup [.agg [.int .u64 (a : Nat), .int .u64 (b : Nat), .int .u64 (c : Nat), .int .u64 (d : Nat)], .int .i64 ((p + (clsText a b c d).length : Nat) : Int), .int .i64 0], .agg [.no, .no, .no]), ⟨[], []⟩)) :
    lay.Wp 16 0 [.str s, .int .i64 (p : Nat)] K := by
  have hle := hA.le
  unfold clsText at hA h hle
  have hw1 : IntKind.wrap .i64 (((p : Nat) : Int) + 1) = ((p + 1 : Nat) : Int) := by rw [wrap64 (by omega) (by omega)]; omega
  have hw2 : IntKind.wrap .i64 (((p + 1 : Nat) : Int) + 1) = ((p + 2 : Nat) : Int) := by rw [wrap64 (by omega) (by omega)]; omega
  have z1 : decide (((p : Nat) : Int) < 0) = false := by rw [decide_eq_false_iff_not]; omega
  have z3 : ((((91 : UInt8).toNat : Nat) : Int) != 91) = false := rfl
  refine Lay.wp_of h16 (fun call => e16x0 call _ _) ?_
  unfold t16x0
  by_cases c1 : a = 0 ∧ b = 0 ∧ c = 0 ∧ d = 0
  · obtain ⟨rfl, rfl, rfl, rfl⟩ := c1
    rw [if_pos ⟨rfl, rfl, rfl, rfl⟩] at hA h hle
    have hA1 : At s p (91 :: 94 :: (clsL (fun _ => true) 256 0 ++ 93 :: rest)) := by simpa using hA
    have z2 : decide (((p : Nat) : Int) ≥ ((s.length : Nat) : Int)) = false := by
      have := hA1.le
      rw [decide_eq_false_iff_not]; simp only [List.length_cons] at this; omega
    simp only [z1, z2, z3, hw1, byteA hA1, tw_nm, tw_iteF, tw_bindS, tw_callT]
    refine comesY hA1.next ?_
    simp only [s27x0, hw2, tw_needR, tw_needT, true_and, tw_nm, tw_iteT, tw_jump]
    have key : ∀ j, j < 4 → accW (fun _ => true) j 256 = 18446744073709551616 - 1 := by
      intro j hj
      refine accW_word hj (by decide) fun t ht => ?_
      have : ∀ t, t < 64 → (18446744073709551616 - 1 : Nat).testBit t = true := by decide +kernel
      rw [this t ht]
    refine cls_read (f := fun _ => true) (rest := rest) hs 256 0 (p + 2) true rfl (fun _ hh => ?_) hA1.next.next ?_
    · have := clsL_none 256 0 hh 0 (by decide) (by decide)
      cases this
    · rw [key 0 (by decide), key 1 (by decide), key 2 (by decide), key 3 (by decide)]
      have e : p + ([91, 94] ++ clsL (fun _ => true) 256 0 ++ [93]).length = p + 2 + (clsL (fun _ => true) 256 0).length + 1 := by
        simp only [List.length_append, List.length_cons, List.length_nil]; omega
      rw [e] at h
      exact h
  · rw [if_neg c1] at hA h hle
    have hA1 : At s p (91 :: (clsL (hasN a b c d) 256 0 ++ 93 :: rest)) := by simpa using hA
    have z2 : decide (((p : Nat) : Int) ≥ ((s.length : Nat) : Int)) = false := by
      have := hA1.le
      rw [decide_eq_false_iff_not]; simp only [List.length_cons] at this; omega
    have word (j : Nat) (hj : j < 4) : accW (hasN a b c d) j 256 = wordN a b c d j := by
      refine accW_word hj ?_ fun t ht => hasN_word a b c d j t ht
      unfold wordN
      split
      · exact ha
      split
      · exact hb
      split
      · exact hc
      · exact hd
    simp only [z1, z2, z3, hw1, byteA hA1, tw_nm, tw_iteF, tw_bindS, tw_callT]
    refine comesN (k := 94) hA1.next (clsL_ne (by decide) (by decide) (by simp) _ _) ?_
    simp only [s27x0, tw_needR, tw_needT, true_and, tw_nm, tw_iteF, tw_jump]
    refine cls_read (f := hasN a b c d) (rest := rest) hs 256 0 (p + 1) true rfl (fun _ hh => c1 ?_) hA1.next ?_
    · have hz := clsL_none 256 0 hh
      have zero (j : Nat) (hj : j < 4) : wordN a b c d j = 0 := by
        rw [← word j hj]
        refine accW_word hj (by decide) fun t ht => ?_
        rw [hz _ (by omega) (by omega), Nat.zero_testBit]
      exact ⟨zero 0 (by decide), zero 1 (by decide), zero 2 (by decide), zero 3 (by decide)⟩
    · rw [word 0 (by decide), word 1 (by decide), word 2 (by decide), word 3 (by decide)]
      have e : p + ([91] ++ clsL (hasN a b c d) 256 0 ++ [93]).length = p + 1 + (clsL (hasN a b c d) 256 0).length + 1 := by
        simp only [List.length_append, List.length_cons, List.length_nil]; omega
      rw [e] at h
      exact h
theorem fst_no (l : List AV) : List.map (fun (x : SV) => x.1) (List.map (fun (x : AV) => ((x, .no) : SV)) l) = l := by
  rw [List.map_map]; exact List.map_id _
theorem kept_fst (o : Bool) (n : Nat) (old new : List SV) : (keptCells o n old new).map (·.1) = new.map (·.1) := by
  unfold keptCells
  rw [List.map_map]
  have : ((fun (x : SV) => x.1) ∘ fun (p : SV × Nat) => ((p.1.1, keepTag o p.1.2 (old.getD (n + p.2) (.undef, .no)).2) : SV)) = (fun x : SV => x.1) ∘ Prod.fst := rfl
  exact (congrArg (fun f => new.zipIdx.map f) this).trans (by rw [← List.map_map, List.zipIdx_map_fst])
theorem kept_len (o : Bool) (n : Nat) (old new : List SV) : (keptCells o n old new).length = new.length := by
  unfold keptCells; simp
theorem expand_fst (cs : List AV) (t : Tag) : (expand (.agg cs, t)).map (·.1) = cs := by
  unfold expand
  simp only [List.map_map]
  have : ((fun (x : SV) => x.1) ∘ fun (p : AV × Nat) => ((p.1, t.at p.2) : SV)) = Prod.fst := rfl
  exact (congrArg (fun f => cs.zipIdx.map f) this).trans (List.zipIdx_map_fst ..)
theorem expand_len (cs : List AV) (t : Tag) : (expand (.agg cs, t)).length = cs.length := by
  have := congrArg List.length (expand_fst cs t); simpa using this
theorem set_step (l : List AV) (i : Nat) (v : Bool) (hi : i < l.length) :
    List.map (fun (x : SV) => x.1) (replaceAt (l.map fun x => ((x, .no) : SV)) (0 + Int.toNat ((i : Nat) : Int) * 1) (keptCells (decide (2 < 0)) (0 + Int.toNat ((i : Nat) : Int) * 1) (l.map fun x => ((x, .no) : SV)) (expand ((.bool v), .no)))) = l.set i (.bool v) := by
  have e : 0 + Int.toNat ((i : Nat) : Int) * 1 = i := by omega
  rw [e]
  unfold replaceAt
  rw [List.map_append, List.map_append, kept_fst, kept_len, List.map_take, List.map_drop, fst_no]
  have e1 : (expand ((.bool v), .no)).map (·.1) = [.bool v] := rfl
  have e2 : (expand ((.bool v), .no)).length = 1 := rfl
  rw [e1, e2, List.set_eq_take_append_cons_drop, if_pos hi]
  simp
abbrev bools (g : Nat → Bool) : List AV := (List.range 256).map fun j => .bool (g j)
theorem bools_set (g : Nat → Bool) (i : Nat) : (bools fun j => decide (j < i) && g j).set i (.bool (g i)) = bools fun j => decide (j < i + 1) && g j := by
  apply List.ext_getElem
  · simp
  · intro j h1 h2
    simp only [List.length_set, List.length_map, List.length_range] at h1
    rw [List.getElem_set]
    by_cases e : i = j
    · subst e; simp
    · have : decide (j < i) = decide (j < i + 1) := by rw [decide_eq_decide]; omega
      rw [if_neg e]; simp [this]
theorem bitInt2 (x m : Nat) (hm : m < 64) : ((Int.tmod (Int.fdiv ((x : Nat) : Int) ((2 : Int) ^ (Min.min (Int.toNat ((m : Nat) : Int)) 64))) 2) == 1) = x.testBit m := by
  rw [Int.toNat_natCast, Nat.min_eq_left (by omega)]
  have e1 : ((2 : Int) ^ m) = ((2 ^ m : Nat) : Int) := by norm_cast
  have e2 : Int.fdiv ((x : Nat) : Int) ((2 ^ m : Nat) : Int) = ((x / 2 ^ m : Nat) : Int) := by
    rw [Int.fdiv_eq_ediv_of_nonneg _ (Int.natCast_nonneg _)]; rfl
  have e3 : Int.tmod ((x / 2 ^ m : Nat) : Int) 2 = ((x / 2 ^ m % 2 : Nat) : Int) := rfl
  rw [e1, e2, e3, Nat.testBit_eq_decide_div_mod_eq, Bool.eq_iff_iff, beq_iff_eq, decide_eq_true_eq]
  omega
theorem of_loop {a b c d : Nat} {c5 : List AV} (h5 : c5.length = 256) (h : K (.ret (.agg (bools (hasN a b c d)), .no), ⟨[], []⟩)) : ∀ (m i : Nat), i + m = 256 →
    lay.Wp 10 1 [.int .i64 (i : Nat), .int .u64 (a : Nat), .int .u64 (b : Nat), .int .u64 (c : Nat), .int .u64 (d : Nat), .agg c5, .agg (bools fun j => decide (j < i) && hasN a b c d j)] K := by
  intro m
  induction m with
  | zero =>
    intro i hi
    obtain rfl : i = 256 := by omega
    have e : (bools fun j => decide (j < 256) && hasN a b c d j) = bools (hasN a b c d) := by
      refine List.map_congr_left fun j hj => ?_
      show AV.bool (decide (j < 256) && hasN a b c d j) = _
      rw [decide_eq_true (List.mem_range.1 hj), Bool.true_and]
    rw [e]
    have hlen : (bools (hasN a b c d)).length = 256 := by simp
    have hb : ∀ x ∈ bools (hasN a b c d), ∃ v, x = AV.bool v := fun x hx => by obtain ⟨j, _, rfl⟩ := List.mem_map.1 hx; exact ⟨_, rfl⟩
    generalize bools (hasN a b c d) = L at h hlen hb
    have ht : List.take 256 (L.map fun (x : AV) => ((x, .no) : SV)) = L.map fun (x : AV) => ((x, .no) : SV) := List.take_of_length_le (by simp [hlen])
    refine Lay.wp_of h10 (fun call => e10x1 call _ _ _ _ _ _ _) ?_
    unfold t10x1
    simp only [tw_nm, tw_ite, tw_need, tw_done, ht, fst_no]
    rw [if_neg (by decide)]
    generalize hX : expand ((.agg L), (.agg (List.map (fun (x : SV) => x.2) (L.map fun (x : AV) => ((x, .no) : SV))))) = X
    have hXf : X.map (·.1) = L := by rw [← hX]; exact expand_fst _ _
    have hXl : X.length = 256 := by rw [← hX, expand_len]; exact hlen
    have hY : List.map (fun (x : SV) => x.1) (replaceAt (c5.map fun (x : AV) => ((x, .no) : SV)) 0 (keptCells (decide (1 < 0)) 0 (c5.map fun (x : AV) => ((x, .no) : SV)) X)) = L := by
      unfold replaceAt
      rw [List.map_append, List.map_append, kept_fst, kept_len, hXf, hXl]
      rw [List.drop_eq_nil_of_le (by simp [h5])]
      simp
    generalize replaceAt (c5.map fun (x : AV) => ((x, .no) : SV)) 0 (keptCells (decide (1 < 0)) 0 (c5.map fun (x : AV) => ((x, .no) : SV)) X) = Y at hY
    have hYl : Y.length = 256 := by have := congrArg List.length hY; simpa [hlen] using this
    have hYt : List.take 256 Y = Y := List.take_of_length_le (by omega)
    rw [hYt, hY]
    refine ⟨by simp [hlen], ⟨hXl, by omega, fun y hy => ?_, by simp [h5]⟩, by omega, fun v hv => ?_, h⟩
    · have : y.1 ∈ L := by rw [← hXf]; exact List.mem_map_of_mem hy
      obtain ⟨v, hv⟩ := hb _ this
      rw [hv]; exact ⟨rfl, rfl⟩
    · have e := List.mem_singleton.1 hv
      rw [e]
      unfold collect
      rw [hY]
      show AV.lows 0 L = true
      rw [lows_iff]
      intro y hy
      obtain ⟨v, hv⟩ := hb _ hy
      rw [hv]; rfl
  | succ m ih =>
    intro i hi
    have next := ih (i + 1) (by omega)
    rw [← bools_set] at next
    have hlen : (bools fun j => decide (j < i) && hasN a b c d j).length = 256 := by simp
    generalize (bools fun j => decide (j < i) && hasN a b c d j) = L at next hlen
    have w1 : IntKind.wrap .i64 (((i : Nat) : Int) + 1) = ((i + 1 : Nat) : Int) := by rw [wrap64 (by omega) (by omega)]; omega
    have d1 : IntKind.wrap .i64 (Int.tdiv ((i : Nat) : Int) 64) = ((i / 64 : Nat) : Int) := by
      have : Int.tdiv ((i : Nat) : Int) 64 = ((i / 64 : Nat) : Int) := rfl
      rw [this, wrap64 (by omega) (by omega)]
    have d2 : Int.tmod ((i : Nat) : Int) 64 = ((i % 64 : Nat) : Int) := rfl
    have d3 : IntKind.wrap .u64 ((i % 64 : Nat) : Int) = ((i % 64 : Nat) : Int) := wrapU64 (by omega)
    refine Lay.wp_of h10 (fun call => e10x1 call _ _ _ _ _ _ _) ?_
    unfold t10x1
    simp only [w1, d1, d2, d3, tw_nm, tw_ite, tw_need]
    rw [if_pos (by rw [decide_eq_true_eq]; omega)]
    unfold hasN at next
    have hj : i / 64 = 0 ∨ i / 64 = 1 ∨ i / 64 = 2 ∨ i / 64 = 3 := by omega
    rcases hj with ej | ej | ej | ej <;>
    · rw [ej] at next ⊢
      refine ⟨by simp [nonzero], ⟨by omega, by omega⟩, _, rfl, ?_⟩
      simp only [openC_int, openC_nil, d2, d3, w1, tw_nm, tw_need, tw_jump, fst_no]
      rw [bitInt2 _ _ (by omega), set_step _ _ _ (by omega)]
      exact ⟨by simp [nonzero], by simp [nonneg]; omega, by simp [nonzero], ⟨by omega, by omega⟩, by simp; omega, next⟩
theorem of_wp {a b c d : Nat} (h : K (.ret (.agg (bools (hasN a b c d)), .no), ⟨[], []⟩)) : lay.Wp 10 0 [.int .u64 (a : Nat), .int .u64 (b : Nat), .int .u64 (c : Nat), .int .u64 (d : Nat)] K := by
  refine Lay.wp_of h10 (fun call => e10x0 call _ _ _ _) ?_
  unfold t10x0
  simp only [tw_nm, tw_need, tw_jump]
  have e : List.map (fun (x : SV) => x.1) (List.replicate 256 (((.bool Bool.false), .no) : SV)) = bools fun j => decide (j < 0) && hasN a b c d j := by
    have : (bools fun j => decide (j < 0) && hasN a b c d j) = (List.range 256).map fun _ => AV.bool false := by
      refine List.map_congr_left fun j _ => ?_
      simp
    rw [this, List.map_replicate, List.map_const', List.length_range]
  rw [e]
  refine ⟨⟨trivial, by omega, fun y hy => ?_, by omega⟩, of_loop List.length_replicate h 256 0 rfl⟩
  have hm := List.mem_map_of_mem (f := fun x : SV => x.1) hy
  rw [expand_fst] at hm
  rw [(List.mem_replicate.1 hm).2]
  exact ⟨rfl, rfl⟩
/-! ### a set's text -/
theorem bytes_back (s : List UInt8) : bytesOf (toBytes s) = some s := by
  induction s with
  | nil => rfl
  | cons b s ih =>
    have e : bytesOf (toBytes (b :: s)) = (bytesOf (toBytes s)).map (UInt8.ofNat (((b.toNat : Nat) : Int).toNat) :: ·) := rfl
    rw [e, ih, Int.toNat_natCast]
    simp
theorem toBytes_snoc (s : List UInt8) (b : UInt8) : toBytes s ++ [AV.int .u8 ((b.toNat : Nat) : Int)] = toBytes (s ++ [b]) := by
  unfold toBytes; simp
theorem bytes_len (s : List UInt8) : (toBytes s).length = s.length := by unfold toBytes; simp
theorem bytes_sz (s : List UInt8) : szOk (toBytes s) 1 = true := by cases s <;> rfl
theorem clsR_loop {f : Nat → Bool} {e : Bool} : ∀ (m i : Nat) (acc : List UInt8), i + m = 256 → acc.length ≤ 2 * i + 2 → ∀ (b3 : Bool) (a b c d : Int), K (.ret (.str (acc ++ clsL (fun n => f n || e) m i ++ [93]), .no), ⟨[], []⟩) →
    lay.Wp 17 2 [.sl (toBytes acc), .bool e, .int .i64 (i : Nat), .bool b3, .int .u64 a, .int .u64 b, .int .u64 c, .int .u64 d, .agg (bools f)] K := by
  intro m
  have hk : Ab.maxLen = 4294967296 := rfl
  induction m with
  | zero =>
    intro i acc hi hacc b3 a b c d h
    refine Lay.wp_of h17 (fun call => e17x2 call _ _ _ _ _ _ _ _ _) ?_
    unfold t17x2
    have e93 : toBytes acc ++ [AV.int .u8 93] = toBytes (acc ++ [93]) := toBytes_snoc acc 93
    simp only [e93, bytes_back, bytes_len, tw_nm, tw_ite, tw_need, tw_bindS, tw_done, true_and, eq_self]
    rw [if_neg (by rw [decide_eq_true_eq]; omega)]
    exact ⟨bytes_sz _, rfl, by omega, by simpa [clsL] using h⟩
  | succ m ih =>
    intro i acc hi hacc b3 a b c d h
    have w1 : IntKind.wrap .i64 (((i : Nat) : Int) + 1) = ((i + 1 : Nat) : Int) := by rw [wrap64 (by omega) (by omega)]; omega
    have w8 : IntKind.wrap .u8 ((i : Nat) : Int) = ((i : Nat) : Int) := by rw [IntKind.wrap_u8]; omega
    have hu : (UInt8.ofNat i).toNat = i := by simp; omega
    simp only [clsL] at h
    have four (acc' : List UInt8) (hl : acc'.length ≤ 2 * (i + 1) + 2) (b4 b5 : Bool) (h : K (.ret (.str (acc' ++ clsL (fun n => f n || e) m (i + 1) ++ [93]), .no), ⟨[], []⟩)) :
        lay.Wp 17 4 [.sl (toBytes acc'), .bool e, .int .i64 (i : Nat), .bool b3, .bool b4, .bool b5, .int .u64 a, .int .u64 b, .int .u64 c, .int .u64 d, .agg (bools f)] K := by
      refine Lay.wp_of h17 (fun call => e17x4 call _ _ _ _ _ _ _ _ _ _ _) ?_
      unfold t17x4
      simp only [w1, tw_nm, tw_need, tw_jump, true_and, eq_self, fst_no]
      exact ih (i + 1) acc' (by omega) hl b3 a b c d h
    have six (acc' : List UInt8) (hl : acc'.length + 1 ≤ 2 * (i + 1) + 2) (b4 b5 b6 : Bool) (h : K (.ret (.str (acc' ++ [UInt8.ofNat i] ++ clsL (fun n => f n || e) m (i + 1) ++ [93]), .no), ⟨[], []⟩)) :
        lay.Wp 17 6 [.sl (toBytes acc'), .bool e, .int .i64 (i : Nat), .bool b3, .bool b4, .bool b5, .bool b6, .int .u64 a, .int .u64 b, .int .u64 c, .int .u64 d, .agg (bools f)] K := by
      have es : toBytes acc' ++ [AV.int .u8 ((i : Nat) : Int)] = toBytes (acc' ++ [UInt8.ofNat i]) := by
        have := toBytes_snoc acc' (UInt8.ofNat i)
        rwa [hu] at this
      refine Lay.wp_of h17 (fun call => e17x6 call _ _ _ _ _ _ _ _ _ _ _ _) ?_
      unfold t17x6
      simp only [w8, es, tw_nm, tw_need, tw_jump, true_and, eq_self, fst_no, bytes_len]
      exact ⟨bytes_sz _, rfl, by omega, four _ (by simp; omega) _ _ h⟩
    have five (b4 b5 b6 : Bool) (h : K (.ret (.str (acc ++ [92, UInt8.ofNat i] ++ clsL (fun n => f n || e) m (i + 1) ++ [93]), .no), ⟨[], []⟩)) :
        lay.Wp 17 5 [.sl (toBytes acc), .bool e, .int .i64 (i : Nat), .bool b3, .bool b4, .bool b5, .bool b6, .int .u64 a, .int .u64 b, .int .u64 c, .int .u64 d, .agg (bools f)] K := by
      have e92 : toBytes acc ++ [AV.int .u8 92] = toBytes (acc ++ [92]) := toBytes_snoc acc 92
      refine Lay.wp_of h17 (fun call => e17x5 call _ _ _ _ _ _ _ _ _ _ _ _) ?_
      unfold t17x5
      simp only [e92, tw_nm, tw_need, tw_jump, true_and, eq_self, fst_no, bytes_len]
      exact ⟨bytes_sz _, rfl, by omega, six _ (by simp; omega) _ _ _ (by simpa using h)⟩
    have three (b4 b5 : Bool) (h : K (.ret (.str (acc ++ encC i ++ clsL (fun n => f n || e) m (i + 1) ++ [93]), .no), ⟨[], []⟩)) :
        lay.Wp 17 3 [.sl (toBytes acc), .bool e, .int .i64 (i : Nat), .bool b3, .bool b4, .bool b5, .int .u64 a, .int .u64 b, .int .u64 c, .int .u64 d, .agg (bools f)] K := by
      refine Lay.wp_of h17 (fun call => e17x3 call _ _ _ _ _ _ _ _ _ _ _) ?_
      unfold t17x3
      simp only [tw_nm, tw_ite, tw_need, tw_jump, true_and, eq_self, fst_no]
      have hmem : UInt8.ofNat i ∈ strokesL ↔ (i = 94 ∨ i = 45 ∨ i = 93 ∨ i = 91 ∨ i = 92) := by
        have key : ∀ n, n < 256 → (UInt8.ofNat n ∈ strokesL ↔ (n = 94 ∨ n = 45 ∨ n = 93 ∨ n = 91 ∨ n = 92)) := by decide +kernel
        exact key i (by omega)
      by_cases c1 : i = 94
      · rw [if_pos (by simp [c1])]
        rw [show encC i = [92, UInt8.ofNat i] from if_pos (hmem.2 (by omega))] at h
        exact five _ _ _ h
      rw [if_neg (by simp; omega)]
      by_cases c2 : i = 45
      · rw [if_pos (by simp [c2])]
        rw [show encC i = [92, UInt8.ofNat i] from if_pos (hmem.2 (by omega))] at h
        exact five _ _ _ h
      rw [if_neg (by simp; omega)]
      by_cases c3 : i = 93
      · rw [if_pos (by simp [c3])]
        rw [show encC i = [92, UInt8.ofNat i] from if_pos (hmem.2 (by omega))] at h
        exact five _ _ _ h
      rw [if_neg (by simp; omega)]
      by_cases c4 : i = 91
      · rw [if_pos (by simp [c4])]
        rw [show encC i = [92, UInt8.ofNat i] from if_pos (hmem.2 (by omega))] at h
        exact five _ _ _ h
      rw [if_neg (by simp; omega)]
      by_cases c5 : i = 92
      · rw [if_pos (by simp [c5])]
        rw [show encC i = [92, UInt8.ofNat i] from if_pos (hmem.2 (by omega))] at h
        exact five _ _ _ h
      rw [if_neg (by simp; omega)]
      rw [show encC i = [UInt8.ofNat i] from if_neg (fun q => by have := hmem.1 q; omega)] at h
      exact six _ (by omega) _ _ _ h
    have ecell : Option.bind ((List.map (fun (x : AV) => ((x, .no) : SV)) (bools f))[(0 + ((Int.toNat ((i : Nat) : Int)) * 1))]?) plain1 = some [.bool (f i)] := by
      have : 0 + (Int.toNat ((i : Nat) : Int)) * 1 = i := by omega
      rw [this]
      simp [plain1, show i < 256 by omega]
    refine Lay.wp_of h17 (fun call => e17x2 call _ _ _ _ _ _ _ _ _) ?_
    unfold t17x2
    simp only [ecell, tw_opnS, openC_bool, openC_nil, tw_nm, tw_ite, tw_need, tw_jump, true_and, eq_self, fst_no]
    rw [if_pos (by rw [decide_eq_true_eq]; omega)]
    refine ⟨⟨by omega, by omega⟩, ?_⟩
    cases hf : f i
    · rw [if_neg (by simp)]
      cases e
      · rw [if_neg (by simp)]
        exact four acc (by omega) _ _ (by simpa [hf] using h)
      · rw [if_pos (by rfl)]
        exact three _ _ (by simpa [hf] using h)
    · rw [if_pos (by rfl)]
      exact three _ _ (by simpa [hf] using h)
theorem clsR_wp {a b c d : Nat} (h : K (.ret (.str (clsText a b c d), .no), ⟨[], []⟩)) : lay.Wp 17 0 [.int .u64 (a : Nat), .int .u64 (b : Nat), .int .u64 (c : Nat), .int .u64 (d : Nat)] K := by
  have hk : Ab.maxLen = 4294967296 := rfl
  unfold clsText at h
  refine Lay.wp_of h17 (fun call => e17x0 call _ _ _ _) ?_
  unfold t17x0
  simp only [tw_callT]
  refine of_wp ?_
  have hlen : (bools (hasN a b c d)).length = 256 := by simp
  have hb : ∀ x ∈ bools (hasN a b c d), ∃ v, x = AV.bool v := fun x hx => by obtain ⟨j, _, rfl⟩ := List.mem_map.1 hx; exact ⟨_, rfl⟩
  have hY : List.map (fun (x : SV) => x.1) (replaceAt (List.replicate 256 (((.bool Bool.false), .no) : SV)) 0 (keptCells (decide (1 < 0)) 0 (List.replicate 256 (((.bool Bool.false), .no) : SV)) (expand ((.agg (bools (hasN a b c d))), .no)))) = bools (hasN a b c d) := by
    unfold replaceAt
    rw [List.map_append, List.map_append, kept_fst, kept_len, expand_fst, expand_len]
    rw [List.drop_eq_nil_of_le (by rw [List.length_replicate, hlen]; omega), List.take_zero]
    simp
  simp only [s10x0, hY, tw_needR, tw_needT, true_and, tw_nm, tw_ite, tw_need, tw_jump]
  have next (e b1 b2 : Bool) (acc : List UInt8) (hl : acc.length ≤ 2) (h : K (.ret (.str (acc ++ clsL (fun n => hasN a b c d n || e) 256 0 ++ [93]), .no), ⟨[], []⟩)) :
      lay.Wp 17 1 [.sl (toBytes acc), .bool e, .bool b2, .int .u64 (a : Nat), .int .u64 (b : Nat), .int .u64 (c : Nat), .int .u64 (d : Nat), .agg (bools (hasN a b c d))] K := by
    refine Lay.wp_of h17 (fun call => e17x1 call _ _ _ _ _ _ _ _) ?_
    unfold t17x1
    simp only [tw_nm, tw_need, tw_jump, true_and, eq_self, fst_no]
    exact clsR_loop 256 0 acc rfl (by omega) _ _ _ _ _ h
  refine ⟨⟨?_, trivial⟩, ⟨?_, by omega, fun y hy => ?_, by omega⟩, ?_⟩
  · show AV.lows 0 _ = true
    rw [lows_iff]
    intro y hy
    obtain ⟨v, hv⟩ := hb _ hy
    rw [hv]; rfl
  · rw [expand_len]; exact hlen
  · have hm := List.mem_map_of_mem (f := fun x : SV => x.1) hy
    rw [expand_fst] at hm
    obtain ⟨v, hv⟩ := hb _ hm
    rw [hv]; exact ⟨rfl, rfl⟩
  by_cases c1 : a = 0 ∧ b = 0 ∧ c = 0 ∧ d = 0
  · rw [if_pos c1] at h
    obtain ⟨rfl, rfl, rfl, rfl⟩ := c1
    rw [if_pos (by decide)]
    refine ⟨rfl, rfl, by omega, next _ false _ [91, 94] (by simp) ?_⟩
    have e := clsL_congr (f := fun n => hasN 0 0 0 0 n || ((((0 : Nat) : Int) == 0) && (((((0 : Nat) : Int) == 0)) && (((((0 : Nat) : Int) == 0)) && (((((0 : Nat) : Int) == 0)) && true))))) (g := fun _ => true) 256 0 fun n _ _ => by simp
    rw [e]
    exact h
  · rw [if_neg c1] at h
    have z : ((((a : Nat) : Int) == 0) && ((((b : Nat) : Int) == 0) && ((((c : Nat) : Int) == 0) && ((((d : Nat) : Int) == 0) && true)))) = false := by
      rw [← Bool.not_eq_true]
      intro hh
      simp only [Bool.and_true, Bool.and_eq_true, beq_iff_eq] at hh
      exact c1 ⟨by omega, by omega, by omega, by omega⟩
    rw [z, if_neg (by decide)]
    refine next _ false _ [91] (by simp) ?_
    have e := clsL_congr (f := fun n => hasN a b c d n || false) (g := hasN a b c d) 256 0 fun n _ _ => by simp
    rw [e]
    exact h
end Go.Proofs.Ytdiphholophdcaa.T
end
section
open Go Go.Ab
/- THE LAW's PART OF ClassShows. -/
namespace Go.Proofs.Ytdiphholophdcaa.T
theorem classShows_wp {a b c d : Nat} (ha : a < 18446744073709551616) (hb : b < 18446744073709551616) (hc : c < 18446744073709551616) (hd : d < 18446744073709551616) (x y : List UInt8) (hy : y.length ≤ 140737488351232) :
    lay.Wp 5 0 [.int .u64 (a : Nat), .int .u64 (b : Nat), .int .u64 (c : Nat), .int .u64 (d : Nat), .str x, .str y] fun o => o = (.ret (.bool true, .no), ⟨[], []⟩) := by
  have hm : maxStr = 281474976710656 := rfl
  have hl := clsText_len a b c d
  refine Lay.wp_of h5 (fun call => e5x0 call _ _ _ _ _ _) ?_
  unfold t5x0
  simp only [tw_callT]
  refine cls_wp ha hb hc hd ?_
  have go : ∀ z : List UInt8, z.length ≤ 1000 → ∀ {t : Tree}, (∀ A : Out → Prop, A (.ret (.tup [.agg [.int .u64 (a : Nat), .int .u64 (b : Nat), .int .u64 (c : Nat), .int .u64 (d : Nat)], .int .i64 ((z.length + (clsText a b c d).length : Nat) : Int), .int .i64 0], .agg [.no, .no, .no]), ⟨[], []⟩) → lay.Wp 16 0 [.str (z ++ clsText a b c d ++ y), .int .i64 (z.length : Nat)] A) := by
    intro z hz t A hA
    refine clsP_wp (rest := y) (by simp only [List.length_append]; omega) ha hb hc hd ?_ hA
    refine ⟨?_, by simp only [List.length_append]; omega⟩
    rw [List.append_assoc, List.drop_left]
  have w : ∀ z : List UInt8, z.length ≤ 1000 → IntKind.wrap .i64 (((z.length : Nat) : Int) + (((clsText a b c d).length : Nat) : Int)) = ((z.length + (clsText a b c d).length : Nat) : Int) := by
    intro z hz
    rw [wrap64 (by omega) (by omega)]; omega
  have q1 : (clsText a b c d == clsText a b c d) = true := beq_self_eq_true _
  have q3 : ∀ n : Int, (n == n) = true := fun n => beq_self_eq_true n
  have cr := fun (A : Out → Prop) h => clsR_wp (a := a) (b := b) (c := c) (d := d) (K := A) h
  generalize clsText a b c d = s at *
  simp only [s15x0, tw_needR, tw_needT, true_and, tw_nm, tw_ite, tw_need, tw_callT, tw_done]
  by_cases c1 : x.length > 1000
  · rw [if_pos (by rw [decide_eq_true_eq]; omega)]
    have e : List.drop 0 (List.take (Int.toNat 1000) x) = x.take 1000 := rfl
    have hz : (x.take 1000).length ≤ 1000 := by rw [List.length_take]; omega
    rw [e]
    generalize x.take 1000 = z at *
    refine ⟨⟨by omega, by omega⟩, by omega, by simp only [List.length_append]; omega, go z hz (t := .fail) _ ?_⟩
    simp only [s16x0, tw_needR, tw_needT, true_and, tw_nm, tw_callT]
    refine cr _ ?_
    simp only [s17x0, tw_needR, tw_needT, true_and, tw_nm, q1, q3, Bool.and_true, w z hz, tw_iteT, tw_done]
  · rw [if_neg (by rw [decide_eq_true_eq]; omega)]
    have hz : x.length ≤ 1000 := by omega
    refine ⟨by omega, by simp only [List.length_append]; omega, go x hz (t := .fail) _ ?_⟩
    simp only [s16x0, tw_needR, tw_needT, true_and, tw_nm, tw_callT]
    refine cr _ ?_
    simp only [s17x0, tw_needR, tw_needT, true_and, tw_nm, q1, q3, Bool.and_true, w x hz, tw_iteT, tw_done]
end Go.Proofs.Ytdiphholophdcaa.T
end
section
open Go Go.Ab
namespace Go.Proofs.Ytdiphholophdcaa.T
set_option maxHeartbeats 1000000 in
set_option maxRecDepth 100000 in
theorem copyCheck_used (b : Nat) (w : World) (h0 : w.cell? ⟨b, 0, none⟩ = some (.pointer (some ⟨b, 0, none⟩))) :
    Calls Try.prog 30 #[.pointer (some ⟨b, 0, none⟩)] w fun e w' => e = .returned (.tuple #[]) ∧ w' = w := by
  have sz : (Try.prog.info? 51).map (·.size) = some 2 := by kernel_rfl
  obtain ⟨j, hj, _⟩ := Option.map_eq_some_iff.1 sz
  go_enter Try.func30, Try.ntmps30
  go_wp2
  rw [Lib.run_neq_ptr_same w _ (by kernel_rfl : Try.prog.underlying 48 = some (.pointer 51)) hj]
  go_wp2
  go_end0
  exact ⟨rfl, rfl⟩

set_option maxHeartbeats 1000000 in
set_option maxRecDepth 100000 in
theorem copyCheck_fresh (b : Nat) (w : World) (h0 : w.cell? ⟨b, 0, none⟩ = some (.pointer none)) (hsh : w.shape? b = some (51, 2)) (hfz : w.frozen? ⟨b, 0, none⟩ = false) :
    Calls Try.prog 30 #[.pointer (some ⟨b, 0, none⟩)] w fun e w' => e = .returned (.tuple #[]) ∧ w' = w.setCell ⟨b, 0, none⟩ (.pointer (some ⟨b, 0, none⟩)) := by
  have sz : (Try.prog.info? 51).map (·.size) = some 2 := by kernel_rfl
  have lies : liesAt Try.prog Try.prog.depth 51 (2 / Try.prog.cellsOf 51) 0 51 1 = true := by kernel_rfl
  obtain ⟨j, hj, hjs⟩ := Option.map_eq_some_iff.1 sz
  have u48 : Try.prog.underlying 48 = some (.pointer 51) := by kernel_rfl
  have u69 : Try.prog.underlying 69 = some .unsafePointer := by kernel_rfl
  go_enter Try.func30, Try.ntmps30
  go_wp2
  rw [Lib.run_to_unsafe w ⟨b, 0, none⟩ u48 u69 hj (by rw [hjs]; decide) hsh (Nat.zero_lt_succ 1)]
  simp only [Result.andThen]
  rw [Oper.upon_value]
  go_wp2
  rw [run_callFunc_extern Try.func35 (by kernel_rfl) (by kernel_rfl) (by kernel_rfl) (e := Extern.AbiNoEscape.same) (by kernel_rfl)]
  rw [Lib.run_noEscape]
  simp only [Result.andThen]
  rw [Oper.upon_value]
  go_wp2
  rw [Lib.run_from_unsafe w ⟨b, 0, none⟩ u69 u48 hj hsh lies]
  simp only [Result.andThen]
  rw [Oper.upon_value]
  go_wp2
  go_end0
  exact ⟨rfl, rfl⟩
theorem sound30 : SpecSound cx 30 (specCopyCheck 51 5) :=
  copyCheck_sound (fun vs w => enter_run Try.func30 (hname 30 _ Try.func30) (k := bodyOf Try.f30) rfl vs w) copyCheck_fresh copyCheck_used
theorem sound36 : SpecSound cx 36 specIndexByteString := indexByteString_sound Try.func36 (hname 36 _ Try.func36) (by kernel_rfl) (by kernel_rfl) (by kernel_rfl)
theorem sound33 : SpecSound cx 33 specFail := specFail_sound
theorem run9 : Ctx.call cx pre (fun _ => none) 400 9 [] ⟨[], []⟩ = some (.ret (.bool true, .no), ⟨[], []⟩) := by kernel_rfl
theorem sound9 : SpecSound cx 9 Go.Ab.specTrue := specTrue_sound (run_sound hm hname (fun _ _ h => by cases h) 400) run9
end Go.Proofs.Ytdiphholophdcaa.T
end
section
open Go Go.Ab
namespace Go.Proofs.Ytdiphholophdcaa.T
theorem fns_ok : FnsOk cx.P [(5, d5), (10, d10), (15, d15), (16, d16), (17, d17), (19, d19), (20, d20), (21, d21), (22, d22), (24, d24), (25, d25), (26, d26), (27, d27), (28, d28), (31, d31), (32, d32), (34, d34), (37, d37)] :=
  .cons Try.func5 rfl (
  .cons Try.func10 rfl (
  .cons Try.func15 rfl (
  .cons Try.func16 rfl (
  .cons Try.func17 rfl (
  .cons Try.func19 rfl (
  .cons Try.func20 rfl (
  .cons Try.func21 rfl (
  .cons Try.func22 rfl (
  .cons Try.func24 rfl (
  .cons Try.func25 rfl (
  .cons Try.func26 rfl (
  .cons Try.func27 rfl (
  .cons Try.func28 rfl (
  .cons Try.func31 rfl (
  .cons Try.func32 rfl (
  .cons Try.func34 rfl (
  .cons Try.func37 rfl (
  .nil))))))))))))))))))
theorem exts_ok : ExtsOk cx [(9, specTrue), (30, specCopyCheck 51 5), (33, specFail), (36, specIndexByteString)] :=
  .cons sound9 (.cons sound30 (.cons sound33 (.cons sound36 (.nil))))
theorem fits : lay.Fits := ⟨hm, hname, fun _ _ h => fns_ok.mem (fnsL_mem h), fun _ _ h => exts_ok.mem (extL_mem h)⟩
end Go.Proofs.Ytdiphholophdcaa.T
end
