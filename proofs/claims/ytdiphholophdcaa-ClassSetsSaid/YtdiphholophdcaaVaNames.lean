/- ClassNames returns true for every text, and changes nothing that it was handed; no condition. Proved by contracts of its functions over the verified abstract run. -/
import Derived.Test.YtdiphholophdcaaVaRuns
import Derived.Test.YtdiphholophdcaaRows
import Derived.WalkKit
import Derived.ProofKit
import Derived.OpenShut
import Derived.ShutString
import Derived.ChangeOld
import Derived.Below
import Derived.SizedLaws
set_option linter.unusedVariables false
set_option linter.unusedSimpArgs false
set_option linter.unnecessarySimpa false
open Go Go.Ab
namespace Go.Proofs.Ytdiphholophdcaa.V
/-- has -/
def s19 : Go.Ab.Spec := ⟨false, fun args S => match args, S with
  | [(.agg [.int .u64 w0, .int .u64 w1, .int .u64 w2, .int .u64 w3], .no), (.int .u8 c, .no)], ⟨[], []⟩ => .need (0 ≤ c ∧ c < 256) (.name (hasZ w0 w1 w2 w3 c) fun r => .ret (.bool r, .no) ⟨[], []⟩)
  | _, _ => .fail⟩
/-- is it one of the names? -/
def known (s : List UInt8) : Bool := (List.range 12).any fun k => s == nm k
def rangesOf (s : List UInt8) : List UInt8 := if known s then [0] else []
/-- a name's set: four numbers -/
def namedW (s : List UInt8) (i : Nat) : Int := ((List.range 12).foldr (fun k l => if s == nm k then wds k else l) [0, 0, 0, 0]).getD i 0
def s29n : Go.Ab.Spec := ⟨false, fun args S => match args, S with
  | [(.str s, .no)], ⟨[], []⟩ => .need (known s = false) (.ret (.str [], .no) ⟨[], []⟩)
  | _, _ => .fail⟩
def s18 : Go.Ab.Spec := ⟨false, fun args S => match args, S with
  | [(.str s, .no)], ⟨[], []⟩ => .name (namedW s 0) fun w0 => .name (namedW s 1) fun w1 => .name (namedW s 2) fun w2 => .name (namedW s 3) fun w3 => .name (known s) fun k => .ret (.tup [A4 w0 w1 w2 w3, .bool k], .agg [.no, .no]) ⟨[], []⟩
  | _, _ => .fail⟩
/-- is the byte of the class? -/
def isIn (s : List UInt8) (c : Int) : Bool :=
  if s = nm 0 then (65 ≤ c && c ≤ 90) || (97 ≤ c && c ≤ 122) else
  if s = nm 1 then 48 ≤ c && c ≤ 57 else
  if s = nm 2 then (65 ≤ c && c ≤ 90) || (97 ≤ c && c ≤ 122) || (48 ≤ c && c ≤ 57) else
  if s = nm 3 then 65 ≤ c && c ≤ 90 else
  if s = nm 4 then 97 ≤ c && c ≤ 122 else
  if s = nm 5 then c == 32 || (9 ≤ c && c ≤ 13) else
  if s = nm 6 then c == 32 || c == 9 else
  if s = nm 7 then 32 < c && c < 127 && !(65 ≤ c && c ≤ 90) && !(97 ≤ c && c ≤ 122) && !(48 ≤ c && c ≤ 57) else
  if s = nm 8 then 32 ≤ c && c < 127 else
  if s = nm 9 then 32 < c && c < 127 else
  if s = nm 10 then c < 32 || c == 127 else
  if s = nm 11 then (48 ≤ c && c ≤ 57) || (65 ≤ c && c ≤ 70) || (97 ≤ c && c ≤ 102) else false
def s7 : Go.Ab.Spec := ⟨false, fun args S => match args, S with
  | [(.str s, .no), (.int .i64 c, .no)], ⟨[], []⟩ => .name (isIn s c) fun r => .name (known s) fun k => .ret (.tup [.bool r, .bool k], .agg [.no, .no]) ⟨[], []⟩
  | _, _ => .fail⟩
def s9 : Go.Ab.Spec := ⟨false, fun args S => match args, S with
  | [], ⟨[], []⟩ => .ret (.bool true, .no) ⟨[], []⟩
  | _, _ => .fail⟩
def calls : Nat → List (FuncId × Go.Ab.Spec)
  | 8 => [(19, s19)]
  | 18 => [(29, s29n)]
  | 6 => [(18, s18)]
  | 3 => [(6, s18), (7, s7), (8, s19), (9, s9)]
  | _ => []
def joins : Nat → Nat → Option (List (Tmp × CK))
  | 7, 1 => some [(6, .bool), (7, .bool), (8, .bool)]
  | _, _ => none
/-- nothing is known -/
abbrev U : SV := (.undef, .no)
def fr3 (s : List UInt8) (k : Bool) (i : Int) : Fr := ⟨[(.str s, .no), U, U, (.ptr 0 0, .no), (.bool k, .no), (.int .i64 i, .no)] ++ List.replicate 29 U, []⟩
def blk4 (w0 w1 w2 w3 : Int) : Blk := [(.int .u64 w0, .no), (.int .u64 w1, .no), (.int .u64 w2, .no), (.int .u64 w3, .no)]
/-- the law's loop -/
def L3 : Fr → St → Post1 → Prop := fun fr S Q => ∃ (s : List UInt8) (k : Bool) (w0 w1 w2 w3 : Int), fr = fr3 s k 0 ∧ S = ⟨[blk4 w0 w1 w2 w3], []⟩ ∧ (∀ c : Nat, c < 256 → hasZ w0 w1 w2 w3 c = isIn s c) ∧ k = known s ∧
  ∀ i, Q (.exit 0) (fr3 s k i) ⟨[blk4 w0 w1 w2 w3], []⟩
def ats : Nat → List (List Nat × (Fr → St → Post1 → Prop))
  | 3 => [([0, 1, 0, 1, 1], L3)]
  | _ => []
abbrev gen (f : Nat) : Gen := ⟨tabL (calls f), joins f, atL (ats f)⟩
/-- for the bodies of loops: the first d rules are left out -/
abbrev genD (f d : Nat) : Gen := ⟨tabL (calls f), joins f, atL ((ats f).drop d)⟩
noncomputable abbrev ev (f n0 m0 : Nat) : Env0 := ⟨cx, noPre, n0, m0, callOf (tabL (calls f)), cx.drop f⟩
abbrev F3 (s : List UInt8) (K : SV → St → Prop) (Kp : AV → St → Prop) : Prop :=
  (∀ (x0 : Int), ((x0 = (Go.Proofs.Ytdiphholophdcaa.V.namedW s 0)) →
   (∀ (x1 : Int), ((x1 = (Go.Proofs.Ytdiphholophdcaa.V.namedW s 1)) →
   (∀ (x2 : Int), ((x2 = (Go.Proofs.Ytdiphholophdcaa.V.namedW s 2)) →
   (∀ (x3 : Int), ((x3 = (Go.Proofs.Ytdiphholophdcaa.V.namedW s 3)) →
   (∀ (x4 : Bool), ((x4 = (Go.Proofs.Ytdiphholophdcaa.V.known s)) →
   (∀ (r5 : Bool), ((r5 = x4) →
   (∃ s6 : (List UInt8), (∃ k7 : Bool, (∃ w08 : Int, (∃ w19 : Int, (∃ w210 : Int, (∃ w311 : Int, (((Go.Ab.Fr.mk [((Go.Ab.AV.str s), Go.Ab.Tag.no), U, U, ((Go.Ab.AV.ptr 0 0), Go.Ab.Tag.no), ((Go.Ab.AV.bool r5), Go.Ab.Tag.no), ((Go.Ab.AV.int Go.IntKind.i64 (0 : Int)), Go.Ab.Tag.no), U, U, U, U, U, U, U, U, U, U, U, U, U, U, U, U, U, U, U, U, U, U, U, U, U, U, U, U, U] []) = (Go.Ab.Fr.mk [((Go.Ab.AV.str s6), Go.Ab.Tag.no), U, U, ((Go.Ab.AV.ptr 0 0), Go.Ab.Tag.no), ((Go.Ab.AV.bool k7), Go.Ab.Tag.no), ((Go.Ab.AV.int Go.IntKind.i64 (0 : Int)), Go.Ab.Tag.no), U, U, U, U, U, U, U, U, U, U, U, U, U, U, U, U, U, U, U, U, U, U, U, U, U, U, U, U, U] [])) ∧
   (((Go.Ab.St.mk [[((Go.Ab.AV.int Go.IntKind.u64 x0), Go.Ab.Tag.no), ((Go.Ab.AV.int Go.IntKind.u64 x1), Go.Ab.Tag.no), ((Go.Ab.AV.int Go.IntKind.u64 x2), Go.Ab.Tag.no), ((Go.Ab.AV.int Go.IntKind.u64 x3), Go.Ab.Tag.no)]] []) = (Go.Ab.St.mk [[((Go.Ab.AV.int Go.IntKind.u64 w08), Go.Ab.Tag.no), ((Go.Ab.AV.int Go.IntKind.u64 w19), Go.Ab.Tag.no), ((Go.Ab.AV.int Go.IntKind.u64 w210), Go.Ab.Tag.no), ((Go.Ab.AV.int Go.IntKind.u64 w311), Go.Ab.Tag.no)]] [])) ∧
   ((∀ (c12 : Nat), ((c12 < 256) →
   ((Go.Proofs.Ytdiphholophdcaa.V.hasZ w08 w19 w210 w311 ((c12 : Nat) : Int)) = (Go.Proofs.Ytdiphholophdcaa.V.isIn s6 ((c12 : Nat) : Int))))) ∧
   ((k7 = (Go.Proofs.Ytdiphholophdcaa.V.known s6)) ∧
   (∀ (i13 : Int), (K ((Go.Ab.AV.bool Bool.true), Go.Ab.Tag.no) (Go.Ab.St.mk [] [])))))))))))))))))))))))))
theorem vc3 (s : List UInt8) (K : SV → St → Prop) (Kp : AV → St → Prop) (h : F3 s K Kp) : Env0.codeW (ev 3 0 0) (gen 3) [] (bodyOf Try.f3) (frame0 Try.f3 [(.str s, .no)]) ⟨[], []⟩ (endW cx .plain Try.f3 0 0 K Kp) :=
  (by kernel_rfl : F3 s K Kp = Env0.codeW (ev 3 0 0) (gen 3) [] (bodyOf Try.f3) (frame0 Try.f3 [(.str s, .no)]) ⟨[], []⟩ (endW cx .plain Try.f3 0 0 K Kp)).mp h

abbrev F18 (s : List UInt8) (K : SV → St → Prop) (Kp : AV → St → Prop) : Prop :=
  (((Go.Proofs.Ytdiphholophdcaa.V.known s) = Bool.false) ∧
   (∀ (r0 : Int), ((r0 = ((0 : Nat) : Int)) →
   (∀ (r1 : Bool), ((r1 = (decide ((0 : Int) < r0))) →
   ((Go.Ab.implB r1 Bool.true ((Go.Ab.inR (0 : Int) 0) ∧
   (∀ (b2 : UInt8), ((Option.none = (Option.some b2)) →
   (∀ (r3 : Int), ((r3 = (((UInt8.toNat b2) : Nat) : Int)) →
   (∀ (r4 : Int), ((r4 = (Go.IntKind.wrap Go.IntKind.i64 ((0 : Int) + (1 : Int)))) →
   ((Go.Ab.inR r4 0) ∧
   (∀ (b5 : UInt8), ((Option.none = (Option.some b5)) →
   (∀ (r6 : Int), ((r6 = (((UInt8.toNat b5) : Nat) : Int)) →
   False))))))))))))) ∧
   (Go.Ab.implB r1 Bool.false (∀ (r7 : Bool), ((r7 = (Bool.not (([] : List UInt8) == ([] : List UInt8)))) →
   (K ((Go.Ab.AV.tup [(Go.Ab.AV.agg [(Go.Ab.AV.int Go.IntKind.u64 (0 : Int)), (Go.Ab.AV.int Go.IntKind.u64 (0 : Int)), (Go.Ab.AV.int Go.IntKind.u64 (0 : Int)), (Go.Ab.AV.int Go.IntKind.u64 (0 : Int))]), (Go.Ab.AV.bool r7)]), (Go.Ab.Tag.agg [Go.Ab.Tag.no, Go.Ab.Tag.no])) (Go.Ab.St.mk [] [])))))))))))
theorem vc18 (s : List UInt8) (K : SV → St → Prop) (Kp : AV → St → Prop) (h : F18 s K Kp) : Env0.codeW (ev 18 0 0) (gen 18) [] (bodyOf Try.f18) (frame0 Try.f18 [(.str s, .no)]) ⟨[], []⟩ (endW cx .plain Try.f18 0 0 K Kp) :=
  (by kernel_rfl : F18 s K Kp = Env0.codeW (ev 18 0 0) (gen 18) [] (bodyOf Try.f18) (frame0 Try.f18 [(.str s, .no)]) ⟨[], []⟩ (endW cx .plain Try.f18 0 0 K Kp)).mp h

abbrev F6 (s : List UInt8) (K : SV → St → Prop) (Kp : AV → St → Prop) : Prop :=
  (∀ (x0 : Int), ((x0 = (Go.Proofs.Ytdiphholophdcaa.V.namedW s 0)) →
   (∀ (x1 : Int), ((x1 = (Go.Proofs.Ytdiphholophdcaa.V.namedW s 1)) →
   (∀ (x2 : Int), ((x2 = (Go.Proofs.Ytdiphholophdcaa.V.namedW s 2)) →
   (∀ (x3 : Int), ((x3 = (Go.Proofs.Ytdiphholophdcaa.V.namedW s 3)) →
   (∀ (x4 : Bool), ((x4 = (Go.Proofs.Ytdiphholophdcaa.V.known s)) →
   (∀ (r5 : Bool), ((r5 = x4) →
   (K ((Go.Ab.AV.tup [(Go.Ab.AV.agg [(Go.Ab.AV.int Go.IntKind.u64 x0), (Go.Ab.AV.int Go.IntKind.u64 x1), (Go.Ab.AV.int Go.IntKind.u64 x2), (Go.Ab.AV.int Go.IntKind.u64 x3)]), (Go.Ab.AV.bool r5)]), (Go.Ab.Tag.agg [Go.Ab.Tag.no, Go.Ab.Tag.no])) (Go.Ab.St.mk [] []))))))))))))))
theorem vc6 (s : List UInt8) (K : SV → St → Prop) (Kp : AV → St → Prop) (h : F6 s K Kp) : Env0.codeW (ev 6 0 0) (gen 6) [] (bodyOf Try.f6) (frame0 Try.f6 [(.str s, .no)]) ⟨[], []⟩ (endW cx .plain Try.f6 0 0 K Kp) :=
  (by kernel_rfl : F6 s K Kp = Env0.codeW (ev 6 0 0) (gen 6) [] (bodyOf Try.f6) (frame0 Try.f6 [(.str s, .no)]) ⟨[], []⟩ (endW cx .plain Try.f6 0 0 K Kp)).mp h

abbrev F29 (s : List UInt8) (K : SV → St → Prop) (Kp : AV → St → Prop) : Prop :=
  (∀ (r0 : Bool), ((r0 = (s == ([97, 108, 112, 104, 97] : List UInt8))) →
   ((Go.Ab.implB r0 Bool.true (K ((Go.Ab.AV.str ([65, 90, 97, 122] : List UInt8)), Go.Ab.Tag.no) (Go.Ab.St.mk [] []))) ∧
   (Go.Ab.implB r0 Bool.false (∀ (r1 : Bool), ((r1 = (s == ([100, 105, 103, 105, 116] : List UInt8))) →
   ((Go.Ab.implB r1 Bool.true (K ((Go.Ab.AV.str ([48, 57] : List UInt8)), Go.Ab.Tag.no) (Go.Ab.St.mk [] []))) ∧
   (Go.Ab.implB r1 Bool.false (∀ (r2 : Bool), ((r2 = (s == ([97, 108, 110, 117, 109] : List UInt8))) →
   ((Go.Ab.implB r2 Bool.true (K ((Go.Ab.AV.str ([48, 57, 65, 90, 97, 122] : List UInt8)), Go.Ab.Tag.no) (Go.Ab.St.mk [] []))) ∧
   (Go.Ab.implB r2 Bool.false (∀ (r3 : Bool), ((r3 = (s == ([117, 112, 112, 101, 114] : List UInt8))) →
   ((Go.Ab.implB r3 Bool.true (K ((Go.Ab.AV.str ([65, 90] : List UInt8)), Go.Ab.Tag.no) (Go.Ab.St.mk [] []))) ∧
   (Go.Ab.implB r3 Bool.false (∀ (r4 : Bool), ((r4 = (s == ([108, 111, 119, 101, 114] : List UInt8))) →
   ((Go.Ab.implB r4 Bool.true (K ((Go.Ab.AV.str ([97, 122] : List UInt8)), Go.Ab.Tag.no) (Go.Ab.St.mk [] []))) ∧
   (Go.Ab.implB r4 Bool.false (∀ (r5 : Bool), ((r5 = (s == ([115, 112, 97, 99, 101] : List UInt8))) →
   ((Go.Ab.implB r5 Bool.true (K ((Go.Ab.AV.str ([9, 13, 32, 32] : List UInt8)), Go.Ab.Tag.no) (Go.Ab.St.mk [] []))) ∧
   (Go.Ab.implB r5 Bool.false (∀ (r6 : Bool), ((r6 = (s == ([98, 108, 97, 110, 107] : List UInt8))) →
   ((Go.Ab.implB r6 Bool.true (K ((Go.Ab.AV.str ([9, 9, 32, 32] : List UInt8)), Go.Ab.Tag.no) (Go.Ab.St.mk [] []))) ∧
   (Go.Ab.implB r6 Bool.false (∀ (r7 : Bool), ((r7 = (s == ([112, 117, 110, 99, 116] : List UInt8))) →
   ((Go.Ab.implB r7 Bool.true (K ((Go.Ab.AV.str ([33, 47, 58, 64, 91, 96, 123, 126] : List UInt8)), Go.Ab.Tag.no) (Go.Ab.St.mk [] []))) ∧
   (Go.Ab.implB r7 Bool.false (∀ (r8 : Bool), ((r8 = (s == ([112, 114, 105, 110, 116] : List UInt8))) →
   ((Go.Ab.implB r8 Bool.true (K ((Go.Ab.AV.str ([32, 126] : List UInt8)), Go.Ab.Tag.no) (Go.Ab.St.mk [] []))) ∧
   (Go.Ab.implB r8 Bool.false (∀ (r9 : Bool), ((r9 = (s == ([103, 114, 97, 112, 104] : List UInt8))) →
   ((Go.Ab.implB r9 Bool.true (K ((Go.Ab.AV.str ([33, 126] : List UInt8)), Go.Ab.Tag.no) (Go.Ab.St.mk [] []))) ∧
   (Go.Ab.implB r9 Bool.false (∀ (r10 : Bool), ((r10 = (s == ([99, 110, 116, 114, 108] : List UInt8))) →
   ((Go.Ab.implB r10 Bool.true (K ((Go.Ab.AV.str ([0, 31, 127, 127] : List UInt8)), Go.Ab.Tag.no) (Go.Ab.St.mk [] []))) ∧
   (Go.Ab.implB r10 Bool.false (∀ (r11 : Bool), ((r11 = (s == ([120, 100, 105, 103, 105, 116] : List UInt8))) →
   ((Go.Ab.implB r11 Bool.true (K ((Go.Ab.AV.str ([48, 57, 65, 70, 97, 102] : List UInt8)), Go.Ab.Tag.no) (Go.Ab.St.mk [] []))) ∧
   (Go.Ab.implB r11 Bool.false (K ((Go.Ab.AV.str ([] : List UInt8)), Go.Ab.Tag.no) (Go.Ab.St.mk [] []))))))))))))))))))))))))))))))))))))))))))))))))))
theorem vc29 (s : List UInt8) (K : SV → St → Prop) (Kp : AV → St → Prop) (h : F29 s K Kp) : Env0.codeW (ev 29 0 0) (gen 29) [] (bodyOf Try.f29) (frame0 Try.f29 [(.str s, .no)]) ⟨[], []⟩ (endW cx .plain Try.f29 0 0 K Kp) :=
  (by kernel_rfl : F29 s K Kp = Env0.codeW (ev 29 0 0) (gen 29) [] (bodyOf Try.f29) (frame0 Try.f29 [(.str s, .no)]) ⟨[], []⟩ (endW cx .plain Try.f29 0 0 K Kp)).mp h

abbrev F19 (w0 w1 w2 w3 : Int) (c : Int) (K : SV → St → Prop) (Kp : AV → St → Prop) : Prop :=
  ((Go.Ab.nonzero (64 : Int)) ∧
   (∀ (r0 : Int), ((r0 = (Go.IntKind.wrap Go.IntKind.u8 (Int.tdiv c (64 : Int)))) →
   ((Go.Ab.inR r0 4) ∧
   (∃ r1 : Int, ((([((Go.Ab.AV.int Go.IntKind.u64 w0), Go.Ab.Tag.no), ((Go.Ab.AV.int Go.IntKind.u64 w1), Go.Ab.Tag.no), ((Go.Ab.AV.int Go.IntKind.u64 w2), Go.Ab.Tag.no), ((Go.Ab.AV.int Go.IntKind.u64 w3), Go.Ab.Tag.no)][(0 + ((Int.toNat r0) * 1))]?) = (Option.some ((Go.Ab.AV.int Go.IntKind.u64 r1), Go.Ab.Tag.no))) ∧
   ((Go.Ab.nonzero (64 : Int)) ∧
   (∀ (r2 : Int), ((r2 = (Int.tmod c (64 : Int))) →
   ((Go.Ab.nonneg r2) ∧
   (∀ (r3 : Int), ((r3 = (Int.fdiv r1 ((2 : Int) ^ (Min.min (Int.toNat r2) 64)))) →
   (∀ (r4 : Int), ((r4 = (Go.Ab.andI Go.IntKind.u64 r3 (1 : Int))) →
   (∀ (r5 : Bool), ((r5 = (r4 == (1 : Int))) →
   (K ((Go.Ab.AV.bool r5), Go.Ab.Tag.no) (Go.Ab.St.mk [] []))))))))))))))))))
theorem vc19 (w0 w1 w2 w3 : Int) (c : Int) (K : SV → St → Prop) (Kp : AV → St → Prop) (h : F19 w0 w1 w2 w3 c K Kp) : Env0.codeW (ev 19 0 0) (gen 19) [] (bodyOf Try.f19) (frame0 Try.f19 [(A4 w0 w1 w2 w3, .no), (.int .u8 c, .no)]) ⟨[], []⟩ (endW cx .plain Try.f19 0 0 K Kp) :=
  (by kernel_rfl : F19 w0 w1 w2 w3 c K Kp = Env0.codeW (ev 19 0 0) (gen 19) [] (bodyOf Try.f19) (frame0 Try.f19 [(A4 w0 w1 w2 w3, .no), (.int .u8 c, .no)]) ⟨[], []⟩ (endW cx .plain Try.f19 0 0 K Kp)).mp h

abbrev F8 (w0 w1 w2 w3 : Int) (c : Int) (K : SV → St → Prop) (Kp : AV → St → Prop) : Prop :=
  ((((0 : Int) ≤ c) ∧
   (c < (256 : Int))) ∧
   (∀ (x0 : Bool), ((x0 = (Go.Proofs.Ytdiphholophdcaa.V.hasZ w0 w1 w2 w3 c)) →
   (K ((Go.Ab.AV.bool x0), Go.Ab.Tag.no) (Go.Ab.St.mk [] [])))))
theorem vc8 (w0 w1 w2 w3 : Int) (c : Int) (K : SV → St → Prop) (Kp : AV → St → Prop) (h : F8 w0 w1 w2 w3 c K Kp) : Env0.codeW (ev 8 0 0) (gen 8) [] (bodyOf Try.f8) (frame0 Try.f8 [(A4 w0 w1 w2 w3, .no), (.int .u8 c, .no)]) ⟨[], []⟩ (endW cx .plain Try.f8 0 0 K Kp) :=
  (by kernel_rfl : F8 w0 w1 w2 w3 c K Kp = Env0.codeW (ev 8 0 0) (gen 8) [] (bodyOf Try.f8) (frame0 Try.f8 [(A4 w0 w1 w2 w3, .no), (.int .u8 c, .no)]) ⟨[], []⟩ (endW cx .plain Try.f8 0 0 K Kp)).mp h

abbrev F3b (s : List UInt8) (k : Bool) (i : Int) (w0 w1 w2 w3 : Int) (Q : Post1) : Prop :=
  (∀ (r0 : Bool), ((r0 = (decide (i < (256 : Int)))) →
   ((Go.Ab.implB r0 Bool.true (∀ (x1 : Bool), ((x1 = (Go.Proofs.Ytdiphholophdcaa.V.isIn s i)) →
   (∀ (x2 : Bool), ((x2 = (Go.Proofs.Ytdiphholophdcaa.V.known s)) →
   (∀ (r3 : Bool), ((r3 = x1) →
   (∀ (r4 : Bool), ((r4 = x2) →
   (∀ (r5 : Int), ((r5 = (Go.IntKind.wrap Go.IntKind.u8 i)) →
   ((((0 : Int) ≤ r5) ∧
   (r5 < (256 : Int))) ∧
   (∀ (x6 : Bool), ((x6 = (Go.Proofs.Ytdiphholophdcaa.V.hasZ w0 w1 w2 w3 r5)) →
   (∀ (r7 : Bool), ((r7 = (Bool.not (x6 == r3))) →
   ((Go.Ab.implB r7 Bool.false (((∀ (r8 : Bool), ((r8 = (Bool.not (k == r4))) →
   ((Go.Ab.implB r8 Bool.true (Q Go.Ab.Ex.ret (Go.Ab.Fr.mk [((Go.Ab.AV.str s), Go.Ab.Tag.no), U, ((Go.Ab.AV.bool Bool.false), Go.Ab.Tag.no), ((Go.Ab.AV.ptr 0 0), Go.Ab.Tag.no), ((Go.Ab.AV.bool k), Go.Ab.Tag.no), ((Go.Ab.AV.int Go.IntKind.i64 i), Go.Ab.Tag.no), U, U, U, U, U, U, U, U, ((Go.Ab.AV.bool r0), Go.Ab.Tag.no), U, U, U, U, U, U, U, U, U, U, U, U, U, U, U, ((Go.Ab.AV.bool k), Go.Ab.Tag.no), ((Go.Ab.AV.bool r4), Go.Ab.Tag.no), ((Go.Ab.AV.bool r8), Go.Ab.Tag.no), ((Go.Ab.AV.bool r8), Go.Ab.Tag.no), U] []) (Go.Ab.St.mk [[((Go.Ab.AV.int Go.IntKind.u64 w0), Go.Ab.Tag.no), ((Go.Ab.AV.int Go.IntKind.u64 w1), Go.Ab.Tag.no), ((Go.Ab.AV.int Go.IntKind.u64 w2), Go.Ab.Tag.no), ((Go.Ab.AV.int Go.IntKind.u64 w3), Go.Ab.Tag.no)]] []))) ∧
   (Go.Ab.implB r8 Bool.false (∀ (r9 : Int), ((r9 = (Go.IntKind.wrap Go.IntKind.i64 (i + (1 : Int)))) →
   (Q Go.Ab.Ex.normal (Go.Ab.Fr.mk [((Go.Ab.AV.str s), Go.Ab.Tag.no), U, U, ((Go.Ab.AV.ptr 0 0), Go.Ab.Tag.no), ((Go.Ab.AV.bool k), Go.Ab.Tag.no), ((Go.Ab.AV.int Go.IntKind.i64 r9), Go.Ab.Tag.no), U, U, U, U, U, U, U, U, ((Go.Ab.AV.bool r0), Go.Ab.Tag.no), U, U, U, U, U, U, U, U, U, U, U, U, U, U, U, ((Go.Ab.AV.bool k), Go.Ab.Tag.no), ((Go.Ab.AV.bool r4), Go.Ab.Tag.no), ((Go.Ab.AV.bool r8), Go.Ab.Tag.no), ((Go.Ab.AV.bool r8), Go.Ab.Tag.no), U] []) (Go.Ab.St.mk [[((Go.Ab.AV.int Go.IntKind.u64 w0), Go.Ab.Tag.no), ((Go.Ab.AV.int Go.IntKind.u64 w1), Go.Ab.Tag.no), ((Go.Ab.AV.int Go.IntKind.u64 w2), Go.Ab.Tag.no), ((Go.Ab.AV.int Go.IntKind.u64 w3), Go.Ab.Tag.no)]] [])))))))) ∧
   True) ∧
   True)) ∧
   (Go.Ab.implB r7 Bool.true (True ∧
   (True ∧
   ((Q Go.Ab.Ex.ret (Go.Ab.Fr.mk [((Go.Ab.AV.str s), Go.Ab.Tag.no), U, ((Go.Ab.AV.bool Bool.false), Go.Ab.Tag.no), ((Go.Ab.AV.ptr 0 0), Go.Ab.Tag.no), ((Go.Ab.AV.bool k), Go.Ab.Tag.no), ((Go.Ab.AV.int Go.IntKind.i64 i), Go.Ab.Tag.no), U, U, U, U, U, U, U, U, ((Go.Ab.AV.bool r0), Go.Ab.Tag.no), U, U, U, U, U, U, U, U, U, U, U, U, U, U, U, ((Go.Ab.AV.tup []), Go.Ab.Tag.no), ((Go.Ab.AV.tup []), Go.Ab.Tag.no), ((Go.Ab.AV.tup []), Go.Ab.Tag.no), ((Go.Ab.AV.bool Bool.true), Go.Ab.Tag.no), U] []) (Go.Ab.St.mk [[((Go.Ab.AV.int Go.IntKind.u64 w0), Go.Ab.Tag.no), ((Go.Ab.AV.int Go.IntKind.u64 w1), Go.Ab.Tag.no), ((Go.Ab.AV.int Go.IntKind.u64 w2), Go.Ab.Tag.no), ((Go.Ab.AV.int Go.IntKind.u64 w3), Go.Ab.Tag.no)]] [])) ∧
   True))))))))))))))))))))) ∧
   (Go.Ab.implB r0 Bool.false (Q (Go.Ab.Ex.exit 0) (Go.Ab.Fr.mk [((Go.Ab.AV.str s), Go.Ab.Tag.no), U, U, ((Go.Ab.AV.ptr 0 0), Go.Ab.Tag.no), ((Go.Ab.AV.bool k), Go.Ab.Tag.no), ((Go.Ab.AV.int Go.IntKind.i64 i), Go.Ab.Tag.no), U, U, U, U, U, U, U, U, ((Go.Ab.AV.bool r0), Go.Ab.Tag.no), U, U, U, U, U, U, U, U, U, U, U, U, U, U, U, U, U, U, U, U] []) (Go.Ab.St.mk [[((Go.Ab.AV.int Go.IntKind.u64 w0), Go.Ab.Tag.no), ((Go.Ab.AV.int Go.IntKind.u64 w1), Go.Ab.Tag.no), ((Go.Ab.AV.int Go.IntKind.u64 w2), Go.Ab.Tag.no), ((Go.Ab.AV.int Go.IntKind.u64 w3), Go.Ab.Tag.no)]] []))))))
theorem vc3b (s : List UInt8) (k : Bool) (i : Int) (w0 w1 w2 w3 : Int) (Q : Post1) (h : F3b s k i w0 w1 w2 w3 Q) : Env0.codeW (ev 3 0 0) (genD 3 1) [0, 0, 1, 0, 1, 1] (subR [0, 0, 1, 0, 1, 1] (bodyOf Try.f3)) (fr3 s k i) ⟨[blk4 w0 w1 w2 w3], []⟩ Q :=
  (by kernel_rfl : F3b s k i w0 w1 w2 w3 Q = Env0.codeW (ev 3 0 0) (genD 3 1) [0, 0, 1, 0, 1, 1] (subR [0, 0, 1, 0, 1, 1] (bodyOf Try.f3)) (fr3 s k i) ⟨[blk4 w0 w1 w2 w3], []⟩ Q).mp h

abbrev F7 (s : List UInt8) (c : Int) (K : SV → St → Prop) (Kp : AV → St → Prop) : Prop :=
  (∃ J0 : (∀ (a : (List Go.Ab.AV)), Prop), ((∀ (r1 : Bool), ((r1 = (decide (c ≥ (65 : Int)))) →
   ((Go.Ab.implB r1 Bool.true ((∀ (r2 : Bool), ((r2 = (decide (c ≤ (90 : Int)))) →
   (∀ (r3 : Bool), ((r3 = (decide (c ≥ (97 : Int)))) →
   ((Go.Ab.implB r3 Bool.true ((∀ (r4 : Bool), ((r4 = (decide (c ≤ (122 : Int)))) →
   (∀ (r5 : Bool), ((r5 = (decide (c ≥ (48 : Int)))) →
   ((Go.Ab.implB r5 Bool.true ((∀ (r6 : Bool), ((r6 = (decide (c ≤ (57 : Int)))) →
   (((Go.Ab.St.mk [] []) = (Go.Ab.St.mk [] [])) ∧
   ((([] : List (FuncId × List SV)) = []) ∧
   (J0 [(Go.Ab.AV.bool r2), (Go.Ab.AV.bool r4), (Go.Ab.AV.bool r6)]))))) ∧
   True)) ∧
   (Go.Ab.implB r5 Bool.false (True ∧
   (((Go.Ab.St.mk [] []) = (Go.Ab.St.mk [] [])) ∧
   ((([] : List (FuncId × List SV)) = []) ∧
   (J0 [(Go.Ab.AV.bool r2), (Go.Ab.AV.bool r4), (Go.Ab.AV.bool Bool.false)])))))))))) ∧
   True)) ∧
   (Go.Ab.implB r3 Bool.false (True ∧
   (∀ (r7 : Bool), ((r7 = (decide (c ≥ (48 : Int)))) →
   ((Go.Ab.implB r7 Bool.true ((∀ (r8 : Bool), ((r8 = (decide (c ≤ (57 : Int)))) →
   (((Go.Ab.St.mk [] []) = (Go.Ab.St.mk [] [])) ∧
   ((([] : List (FuncId × List SV)) = []) ∧
   (J0 [(Go.Ab.AV.bool r2), (Go.Ab.AV.bool Bool.false), (Go.Ab.AV.bool r8)]))))) ∧
   True)) ∧
   (Go.Ab.implB r7 Bool.false (True ∧
   (((Go.Ab.St.mk [] []) = (Go.Ab.St.mk [] [])) ∧
   ((([] : List (FuncId × List SV)) = []) ∧
   (J0 [(Go.Ab.AV.bool r2), (Go.Ab.AV.bool Bool.false), (Go.Ab.AV.bool Bool.false)]))))))))))))))) ∧
   True)) ∧
   (Go.Ab.implB r1 Bool.false (True ∧
   (∀ (r9 : Bool), ((r9 = (decide (c ≥ (97 : Int)))) →
   ((Go.Ab.implB r9 Bool.true ((∀ (r10 : Bool), ((r10 = (decide (c ≤ (122 : Int)))) →
   (∀ (r11 : Bool), ((r11 = (decide (c ≥ (48 : Int)))) →
   ((Go.Ab.implB r11 Bool.true ((∀ (r12 : Bool), ((r12 = (decide (c ≤ (57 : Int)))) →
   (((Go.Ab.St.mk [] []) = (Go.Ab.St.mk [] [])) ∧
   ((([] : List (FuncId × List SV)) = []) ∧
   (J0 [(Go.Ab.AV.bool Bool.false), (Go.Ab.AV.bool r10), (Go.Ab.AV.bool r12)]))))) ∧
   True)) ∧
   (Go.Ab.implB r11 Bool.false (True ∧
   (((Go.Ab.St.mk [] []) = (Go.Ab.St.mk [] [])) ∧
   ((([] : List (FuncId × List SV)) = []) ∧
   (J0 [(Go.Ab.AV.bool Bool.false), (Go.Ab.AV.bool r10), (Go.Ab.AV.bool Bool.false)])))))))))) ∧
   True)) ∧
   (Go.Ab.implB r9 Bool.false (True ∧
   (∀ (r13 : Bool), ((r13 = (decide (c ≥ (48 : Int)))) →
   ((Go.Ab.implB r13 Bool.true ((∀ (r14 : Bool), ((r14 = (decide (c ≤ (57 : Int)))) →
   (((Go.Ab.St.mk [] []) = (Go.Ab.St.mk [] [])) ∧
   ((([] : List (FuncId × List SV)) = []) ∧
   (J0 [(Go.Ab.AV.bool Bool.false), (Go.Ab.AV.bool Bool.false), (Go.Ab.AV.bool r14)]))))) ∧
   True)) ∧
   (Go.Ab.implB r13 Bool.false (True ∧
   (((Go.Ab.St.mk [] []) = (Go.Ab.St.mk [] [])) ∧
   ((([] : List (FuncId × List SV)) = []) ∧
   (J0 [(Go.Ab.AV.bool Bool.false), (Go.Ab.AV.bool Bool.false), (Go.Ab.AV.bool Bool.false)])))))))))))))))))) ∧
   (∀ (b15 : Bool), (∀ (b16 : Bool), (∀ (b17 : Bool), ((J0 [(Go.Ab.AV.bool b15), (Go.Ab.AV.bool b16), (Go.Ab.AV.bool b17)]) →
   (∀ (r18 : Bool), ((r18 = (s == ([97, 108, 112, 104, 97] : List UInt8))) →
   ((Go.Ab.implB r18 Bool.true ((Go.Ab.implB b15 Bool.false (K ((Go.Ab.AV.tup [(Go.Ab.AV.bool b16), (Go.Ab.AV.bool Bool.true)]), (Go.Ab.Tag.agg [Go.Ab.Tag.no, Go.Ab.Tag.no])) (Go.Ab.St.mk [] []))) ∧
   (Go.Ab.implB b15 Bool.true (K ((Go.Ab.AV.tup [(Go.Ab.AV.bool Bool.true), (Go.Ab.AV.bool Bool.true)]), (Go.Ab.Tag.agg [Go.Ab.Tag.no, Go.Ab.Tag.no])) (Go.Ab.St.mk [] []))))) ∧
   (Go.Ab.implB r18 Bool.false (∀ (r19 : Bool), ((r19 = (s == ([100, 105, 103, 105, 116] : List UInt8))) →
   ((Go.Ab.implB r19 Bool.true (K ((Go.Ab.AV.tup [(Go.Ab.AV.bool b17), (Go.Ab.AV.bool Bool.true)]), (Go.Ab.Tag.agg [Go.Ab.Tag.no, Go.Ab.Tag.no])) (Go.Ab.St.mk [] []))) ∧
   (Go.Ab.implB r19 Bool.false (∀ (r20 : Bool), ((r20 = (s == ([97, 108, 110, 117, 109] : List UInt8))) →
   ((Go.Ab.implB r20 Bool.true ((Go.Ab.implB b15 Bool.false ((Go.Ab.implB b16 Bool.false (K ((Go.Ab.AV.tup [(Go.Ab.AV.bool b17), (Go.Ab.AV.bool Bool.true)]), (Go.Ab.Tag.agg [Go.Ab.Tag.no, Go.Ab.Tag.no])) (Go.Ab.St.mk [] []))) ∧
   (Go.Ab.implB b16 Bool.true (K ((Go.Ab.AV.tup [(Go.Ab.AV.bool Bool.true), (Go.Ab.AV.bool Bool.true)]), (Go.Ab.Tag.agg [Go.Ab.Tag.no, Go.Ab.Tag.no])) (Go.Ab.St.mk [] []))))) ∧
   (Go.Ab.implB b15 Bool.true (True ∧
   (K ((Go.Ab.AV.tup [(Go.Ab.AV.bool Bool.true), (Go.Ab.AV.bool Bool.true)]), (Go.Ab.Tag.agg [Go.Ab.Tag.no, Go.Ab.Tag.no])) (Go.Ab.St.mk [] [])))))) ∧
   (Go.Ab.implB r20 Bool.false (∀ (r21 : Bool), ((r21 = (s == ([117, 112, 112, 101, 114] : List UInt8))) →
   ((Go.Ab.implB r21 Bool.true (K ((Go.Ab.AV.tup [(Go.Ab.AV.bool b15), (Go.Ab.AV.bool Bool.true)]), (Go.Ab.Tag.agg [Go.Ab.Tag.no, Go.Ab.Tag.no])) (Go.Ab.St.mk [] []))) ∧
   (Go.Ab.implB r21 Bool.false (∀ (r22 : Bool), ((r22 = (s == ([108, 111, 119, 101, 114] : List UInt8))) →
   ((Go.Ab.implB r22 Bool.true (K ((Go.Ab.AV.tup [(Go.Ab.AV.bool b16), (Go.Ab.AV.bool Bool.true)]), (Go.Ab.Tag.agg [Go.Ab.Tag.no, Go.Ab.Tag.no])) (Go.Ab.St.mk [] []))) ∧
   (Go.Ab.implB r22 Bool.false (∀ (r23 : Bool), ((r23 = (s == ([115, 112, 97, 99, 101] : List UInt8))) →
   ((Go.Ab.implB r23 Bool.true (∀ (r24 : Bool), ((r24 = (c == (32 : Int))) →
   ((Go.Ab.implB r24 Bool.false ((∀ (r25 : Bool), ((r25 = (decide (c ≥ (9 : Int)))) →
   (((Go.Ab.implB r25 Bool.true ((∀ (r26 : Bool), ((r26 = (decide (c ≤ (13 : Int)))) →
   ((K ((Go.Ab.AV.tup [(Go.Ab.AV.bool r26), (Go.Ab.AV.bool Bool.true)]), (Go.Ab.Tag.agg [Go.Ab.Tag.no, Go.Ab.Tag.no])) (Go.Ab.St.mk [] [])) ∧
   True))) ∧
   True)) ∧
   (Go.Ab.implB r25 Bool.false (True ∧
   ((K ((Go.Ab.AV.tup [(Go.Ab.AV.bool Bool.false), (Go.Ab.AV.bool Bool.true)]), (Go.Ab.Tag.agg [Go.Ab.Tag.no, Go.Ab.Tag.no])) (Go.Ab.St.mk [] [])) ∧
   True)))) ∧
   True))) ∧
   True)) ∧
   (Go.Ab.implB r24 Bool.true (True ∧
   (True ∧
   (True ∧
   (K ((Go.Ab.AV.tup [(Go.Ab.AV.bool Bool.true), (Go.Ab.AV.bool Bool.true)]), (Go.Ab.Tag.agg [Go.Ab.Tag.no, Go.Ab.Tag.no])) (Go.Ab.St.mk [] [])))))))))) ∧
   (Go.Ab.implB r23 Bool.false (∀ (r27 : Bool), ((r27 = (s == ([98, 108, 97, 110, 107] : List UInt8))) →
   ((Go.Ab.implB r27 Bool.true (∀ (r28 : Bool), ((r28 = (c == (32 : Int))) →
   ((Go.Ab.implB r28 Bool.false ((∀ (r29 : Bool), ((r29 = (c == (9 : Int))) →
   (K ((Go.Ab.AV.tup [(Go.Ab.AV.bool r29), (Go.Ab.AV.bool Bool.true)]), (Go.Ab.Tag.agg [Go.Ab.Tag.no, Go.Ab.Tag.no])) (Go.Ab.St.mk [] [])))) ∧
   True)) ∧
   (Go.Ab.implB r28 Bool.true (True ∧
   (K ((Go.Ab.AV.tup [(Go.Ab.AV.bool Bool.true), (Go.Ab.AV.bool Bool.true)]), (Go.Ab.Tag.agg [Go.Ab.Tag.no, Go.Ab.Tag.no])) (Go.Ab.St.mk [] [])))))))) ∧
   (Go.Ab.implB r27 Bool.false (∀ (r30 : Bool), ((r30 = (s == ([112, 117, 110, 99, 116] : List UInt8))) →
   ((Go.Ab.implB r30 Bool.true (∀ (r31 : Bool), ((r31 = (decide (c > (32 : Int)))) →
   ((Go.Ab.implB r31 Bool.true ((∀ (r32 : Bool), ((r32 = (decide (c < (127 : Int)))) →
   ((Go.Ab.implB r32 Bool.true ((∀ (r33 : Bool), ((r33 = (Bool.not b15)) →
   ((Go.Ab.implB r33 Bool.true ((∀ (r34 : Bool), ((r34 = (Bool.not b16)) →
   ((Go.Ab.implB r34 Bool.true ((∀ (r35 : Bool), ((r35 = (Bool.not b17)) →
   (K ((Go.Ab.AV.tup [(Go.Ab.AV.bool r35), (Go.Ab.AV.bool Bool.true)]), (Go.Ab.Tag.agg [Go.Ab.Tag.no, Go.Ab.Tag.no])) (Go.Ab.St.mk [] [])))) ∧
   True)) ∧
   (Go.Ab.implB r34 Bool.false (True ∧
   (K ((Go.Ab.AV.tup [(Go.Ab.AV.bool Bool.false), (Go.Ab.AV.bool Bool.true)]), (Go.Ab.Tag.agg [Go.Ab.Tag.no, Go.Ab.Tag.no])) (Go.Ab.St.mk [] []))))))) ∧
   True)) ∧
   (Go.Ab.implB r33 Bool.false (True ∧
   (True ∧
   (True ∧
   (K ((Go.Ab.AV.tup [(Go.Ab.AV.bool Bool.false), (Go.Ab.AV.bool Bool.true)]), (Go.Ab.Tag.agg [Go.Ab.Tag.no, Go.Ab.Tag.no])) (Go.Ab.St.mk [] []))))))))) ∧
   True)) ∧
   (Go.Ab.implB r32 Bool.false (True ∧
   (True ∧
   (True ∧
   (True ∧
   (True ∧
   (K ((Go.Ab.AV.tup [(Go.Ab.AV.bool Bool.false), (Go.Ab.AV.bool Bool.true)]), (Go.Ab.Tag.agg [Go.Ab.Tag.no, Go.Ab.Tag.no])) (Go.Ab.St.mk [] []))))))))))) ∧
   True)) ∧
   (Go.Ab.implB r31 Bool.false (True ∧
   (True ∧
   (True ∧
   (True ∧
   (True ∧
   (True ∧
   (True ∧
   (K ((Go.Ab.AV.tup [(Go.Ab.AV.bool Bool.false), (Go.Ab.AV.bool Bool.true)]), (Go.Ab.Tag.agg [Go.Ab.Tag.no, Go.Ab.Tag.no])) (Go.Ab.St.mk [] [])))))))))))))) ∧
   (Go.Ab.implB r30 Bool.false (∀ (r36 : Bool), ((r36 = (s == ([112, 114, 105, 110, 116] : List UInt8))) →
   ((Go.Ab.implB r36 Bool.true (∀ (r37 : Bool), ((r37 = (decide (c ≥ (32 : Int)))) →
   ((Go.Ab.implB r37 Bool.true ((∀ (r38 : Bool), ((r38 = (decide (c < (127 : Int)))) →
   (K ((Go.Ab.AV.tup [(Go.Ab.AV.bool r38), (Go.Ab.AV.bool Bool.true)]), (Go.Ab.Tag.agg [Go.Ab.Tag.no, Go.Ab.Tag.no])) (Go.Ab.St.mk [] [])))) ∧
   True)) ∧
   (Go.Ab.implB r37 Bool.false (True ∧
   (K ((Go.Ab.AV.tup [(Go.Ab.AV.bool Bool.false), (Go.Ab.AV.bool Bool.true)]), (Go.Ab.Tag.agg [Go.Ab.Tag.no, Go.Ab.Tag.no])) (Go.Ab.St.mk [] [])))))))) ∧
   (Go.Ab.implB r36 Bool.false (∀ (r39 : Bool), ((r39 = (s == ([103, 114, 97, 112, 104] : List UInt8))) →
   ((Go.Ab.implB r39 Bool.true (∀ (r40 : Bool), ((r40 = (decide (c > (32 : Int)))) →
   ((Go.Ab.implB r40 Bool.true ((∀ (r41 : Bool), ((r41 = (decide (c < (127 : Int)))) →
   (K ((Go.Ab.AV.tup [(Go.Ab.AV.bool r41), (Go.Ab.AV.bool Bool.true)]), (Go.Ab.Tag.agg [Go.Ab.Tag.no, Go.Ab.Tag.no])) (Go.Ab.St.mk [] [])))) ∧
   True)) ∧
   (Go.Ab.implB r40 Bool.false (True ∧
   (K ((Go.Ab.AV.tup [(Go.Ab.AV.bool Bool.false), (Go.Ab.AV.bool Bool.true)]), (Go.Ab.Tag.agg [Go.Ab.Tag.no, Go.Ab.Tag.no])) (Go.Ab.St.mk [] [])))))))) ∧
   (Go.Ab.implB r39 Bool.false (∀ (r42 : Bool), ((r42 = (s == ([99, 110, 116, 114, 108] : List UInt8))) →
   ((Go.Ab.implB r42 Bool.true (∀ (r43 : Bool), ((r43 = (decide (c < (32 : Int)))) →
   ((Go.Ab.implB r43 Bool.false ((∀ (r44 : Bool), ((r44 = (c == (127 : Int))) →
   (K ((Go.Ab.AV.tup [(Go.Ab.AV.bool r44), (Go.Ab.AV.bool Bool.true)]), (Go.Ab.Tag.agg [Go.Ab.Tag.no, Go.Ab.Tag.no])) (Go.Ab.St.mk [] [])))) ∧
   True)) ∧
   (Go.Ab.implB r43 Bool.true (True ∧
   (K ((Go.Ab.AV.tup [(Go.Ab.AV.bool Bool.true), (Go.Ab.AV.bool Bool.true)]), (Go.Ab.Tag.agg [Go.Ab.Tag.no, Go.Ab.Tag.no])) (Go.Ab.St.mk [] [])))))))) ∧
   (Go.Ab.implB r42 Bool.false (∀ (r45 : Bool), ((r45 = (s == ([120, 100, 105, 103, 105, 116] : List UInt8))) →
   ((Go.Ab.implB r45 Bool.true ((Go.Ab.implB b17 Bool.false ((∀ (r46 : Bool), ((r46 = (decide (c ≥ (65 : Int)))) →
   (((Go.Ab.implB r46 Bool.true ((∀ (r47 : Bool), ((r47 = (decide (c ≤ (70 : Int)))) →
   (((Go.Ab.implB r47 Bool.false ((∀ (r48 : Bool), ((r48 = (decide (c ≥ (97 : Int)))) →
   (((Go.Ab.implB r48 Bool.true ((∀ (r49 : Bool), ((r49 = (decide (c ≤ (102 : Int)))) →
   ((K ((Go.Ab.AV.tup [(Go.Ab.AV.bool r49), (Go.Ab.AV.bool Bool.true)]), (Go.Ab.Tag.agg [Go.Ab.Tag.no, Go.Ab.Tag.no])) (Go.Ab.St.mk [] [])) ∧
   True))) ∧
   True)) ∧
   (Go.Ab.implB r48 Bool.false (True ∧
   ((K ((Go.Ab.AV.tup [(Go.Ab.AV.bool Bool.false), (Go.Ab.AV.bool Bool.true)]), (Go.Ab.Tag.agg [Go.Ab.Tag.no, Go.Ab.Tag.no])) (Go.Ab.St.mk [] [])) ∧
   True)))) ∧
   True))) ∧
   True)) ∧
   (Go.Ab.implB r47 Bool.true (True ∧
   (True ∧
   (True ∧
   (K ((Go.Ab.AV.tup [(Go.Ab.AV.bool Bool.true), (Go.Ab.AV.bool Bool.true)]), (Go.Ab.Tag.agg [Go.Ab.Tag.no, Go.Ab.Tag.no])) (Go.Ab.St.mk [] []))))))) ∧
   True))) ∧
   True)) ∧
   (Go.Ab.implB r46 Bool.false (True ∧
   ((((∀ (r50 : Bool), ((r50 = (decide (c ≥ (97 : Int)))) →
   (((Go.Ab.implB r50 Bool.true ((∀ (r51 : Bool), ((r51 = (decide (c ≤ (102 : Int)))) →
   ((K ((Go.Ab.AV.tup [(Go.Ab.AV.bool r51), (Go.Ab.AV.bool Bool.true)]), (Go.Ab.Tag.agg [Go.Ab.Tag.no, Go.Ab.Tag.no])) (Go.Ab.St.mk [] [])) ∧
   True))) ∧
   True)) ∧
   (Go.Ab.implB r50 Bool.false (True ∧
   ((K ((Go.Ab.AV.tup [(Go.Ab.AV.bool Bool.false), (Go.Ab.AV.bool Bool.true)]), (Go.Ab.Tag.agg [Go.Ab.Tag.no, Go.Ab.Tag.no])) (Go.Ab.St.mk [] [])) ∧
   True)))) ∧
   True))) ∧
   True) ∧
   True) ∧
   True)))) ∧
   True))) ∧
   True)) ∧
   (Go.Ab.implB b17 Bool.true (True ∧
   (True ∧
   (True ∧
   (True ∧
   (True ∧
   (True ∧
   (True ∧
   (K ((Go.Ab.AV.tup [(Go.Ab.AV.bool Bool.true), (Go.Ab.AV.bool Bool.true)]), (Go.Ab.Tag.agg [Go.Ab.Tag.no, Go.Ab.Tag.no])) (Go.Ab.St.mk [] [])))))))))))) ∧
   (Go.Ab.implB r45 Bool.false (K ((Go.Ab.AV.tup [(Go.Ab.AV.bool Bool.false), (Go.Ab.AV.bool Bool.false)]), (Go.Ab.Tag.agg [Go.Ab.Tag.no, Go.Ab.Tag.no])) (Go.Ab.St.mk [] []))))))))))))))))))))))))))))))))))))))))))))))))))))))))
set_option maxRecDepth 20000 in
theorem vc7 (s : List UInt8) (c : Int) (K : SV → St → Prop) (Kp : AV → St → Prop) (h : F7 s c K Kp) : Env0.codeW (ev 7 0 0) (gen 7) [] (bodyOf Try.f7) (frame0 Try.f7 [(.str s, .no), (.int .i64 c, .no)]) ⟨[], []⟩ (endW cx .plain Try.f7 0 0 K Kp) :=
  (by kernel_rfl : F7 s c K Kp = Env0.codeW (ev 7 0 0) (gen 7) [] (bodyOf Try.f7) (frame0 Try.f7 [(.str s, .no), (.int .i64 c, .no)]) ⟨[], []⟩ (endW cx .plain Try.f7 0 0 K Kp)).mp h

theorem nz64 : nonzero 64 := by unfold nonzero; decide
theorem wfe (c : Int) (hc : 0 ≤ c ∧ c < 256) : IntKind.u8.wrap (c.tdiv 64) = c / 64 := by rw [Int.tdiv_eq_ediv_of_nonneg hc.1, IntKind.wrap_u8]; omega
theorem sound19 : SpecSound cx 19 s19 := by
  refine fn_meets (pre := noPre) (g := gen 19) hm tabL_nil hname (fn := Try.f19) Try.func19 (k := bodyOf Try.f19) rfl .plain (fun _ _ => at_nil) (fun args S K Kp h => ?_)
  unfold s19 at h
  simp only at h
  split at h
  · rename_i w0 w1 w2 w3 c
    obtain ⟨hc, h⟩ := h
    refine vc19 w0 w1 w2 w3 c K Kp ⟨nz64, fun r0 h0 => ⟨?_, ([w0, w1, w2, w3].getD (c / 64).toNat 0), ?_, nz64, fun r2 h2 => ⟨?_, fun r3 h3 r4 h4 r5 h5 => ?_⟩⟩⟩
    · rw [wfe c hc] at h0; unfold inR; omega
    · rw [wfe c hc] at h0
      have h4 : r0 = 0 ∨ r0 = 1 ∨ r0 = 2 ∨ r0 = 3 := by omega
      rw [← h0]
      rcases h4 with h | h | h | h <;> rw [h] <;> rfl
    · rw [Int.tmod_eq_emod_of_nonneg hc.1] at h2; unfold nonneg; omega
    · have e : r5 = hasZ w0 w1 w2 w3 c := by
        rw [Int.tmod_eq_emod_of_nonneg hc.1] at h2
        rw [h5, h4, h3, h2]; rfl
      exact h _ e
  · exact h.elim
theorem sound8 : SpecSound cx 8 s19 := by
  refine fn_meets (pre := noPre) (g := gen 8) hm (tabL_cons sound19 tabL_nil) hname (fn := Try.f8) Try.func8 (k := bodyOf Try.f8) rfl .plain (fun _ _ => at_nil) (fun args S K Kp h => ?_)
  unfold s19 at h
  simp only at h
  split at h
  · rename_i w0 w1 w2 w3 c
    exact vc8 w0 w1 w2 w3 c K Kp h
  · exact h.elim
theorem sound29 : SpecSound cx 29 s29n := by
  refine fn_meets (pre := noPre) (g := gen 29) hm tabL_nil hname (fn := Try.f29) Try.func29 (k := bodyOf Try.f29) rfl .plain (fun _ _ => at_nil) (fun args S K Kp h => ?_)
  unfold s29n at h
  simp only at h
  split at h
  · rename_i s
    obtain ⟨hs, h⟩ := h
    have hk : ∀ k, k < 12 → (s == nm k) = false := fun k hk => by
      have := List.any_eq_false.1 hs k (by simpa using hk)
      simpa using this
    refine vc29 s K Kp ?_
    refine fun r h0 => ⟨implB_intro fun e => ?_, implB_intro fun _ => ?_⟩
    · rw [show r = false from h0.trans (hk 0 (by decide))] at e; cases e
    refine fun r h0 => ⟨implB_intro fun e => ?_, implB_intro fun _ => ?_⟩
    · rw [show r = false from h0.trans (hk 1 (by decide))] at e; cases e
    refine fun r h0 => ⟨implB_intro fun e => ?_, implB_intro fun _ => ?_⟩
    · rw [show r = false from h0.trans (hk 2 (by decide))] at e; cases e
    refine fun r h0 => ⟨implB_intro fun e => ?_, implB_intro fun _ => ?_⟩
    · rw [show r = false from h0.trans (hk 3 (by decide))] at e; cases e
    refine fun r h0 => ⟨implB_intro fun e => ?_, implB_intro fun _ => ?_⟩
    · rw [show r = false from h0.trans (hk 4 (by decide))] at e; cases e
    refine fun r h0 => ⟨implB_intro fun e => ?_, implB_intro fun _ => ?_⟩
    · rw [show r = false from h0.trans (hk 5 (by decide))] at e; cases e
    refine fun r h0 => ⟨implB_intro fun e => ?_, implB_intro fun _ => ?_⟩
    · rw [show r = false from h0.trans (hk 6 (by decide))] at e; cases e
    refine fun r h0 => ⟨implB_intro fun e => ?_, implB_intro fun _ => ?_⟩
    · rw [show r = false from h0.trans (hk 7 (by decide))] at e; cases e
    refine fun r h0 => ⟨implB_intro fun e => ?_, implB_intro fun _ => ?_⟩
    · rw [show r = false from h0.trans (hk 8 (by decide))] at e; cases e
    refine fun r h0 => ⟨implB_intro fun e => ?_, implB_intro fun _ => ?_⟩
    · rw [show r = false from h0.trans (hk 9 (by decide))] at e; cases e
    refine fun r h0 => ⟨implB_intro fun e => ?_, implB_intro fun _ => ?_⟩
    · rw [show r = false from h0.trans (hk 10 (by decide))] at e; cases e
    refine fun r h0 => ⟨implB_intro fun e => ?_, implB_intro fun _ => h⟩
    · rw [show r = false from h0.trans (hk 11 (by decide))] at e; cases e
  · exact h.elim
theorem unknownW {s : List UInt8} (hs : known s = false) (i : Nat) (hi : i < 4) : namedW s i = 0 := by
  have hk : ∀ k, k < 12 → (s == nm k) = false := fun k hk => by
    have := List.any_eq_false.1 hs k (by simpa using hk)
    simpa using this
  have e : (List.range 12).foldr (fun k l => if s == nm k then wds k else l) [0, 0, 0, 0] = [0, 0, 0, 0] := by
    have hk2 : ∀ k, k < 12 → s ≠ nm k := fun k h e => by have := hk k h; rw [e] at this; simp at this
    simp [List.range, List.range.loop, hk2 0 (by decide), hk2 1 (by decide), hk2 2 (by decide), hk2 3 (by decide), hk2 4 (by decide), hk2 5 (by decide), hk2 6 (by decide), hk2 7 (by decide), hk2 8 (by decide), hk2 9 (by decide), hk2 10 (by decide), hk2 11 (by decide)]
  unfold namedW
  rw [e]
  have : i = 0 ∨ i = 1 ∨ i = 2 ∨ i = 3 := by omega
  rcases this with rfl | rfl | rfl | rfl <;> rfl
theorem knownCases {s : List UInt8} (hs : known s = true) : ∃ k, k < 12 ∧ s = nm k := by
  obtain ⟨k, hk, he⟩ := List.any_eq_true.1 hs
  exact ⟨k, by simpa using hk, by simpa using he⟩
theorem knownW : ∀ k, k < 12 → (known (nm k) = true ∧ [namedW (nm k) 0, namedW (nm k) 1, namedW (nm k) 2, namedW (nm k) 3] = wds k) := by decide +kernel
def s18n : Go.Ab.Spec := ⟨false, fun args S => match args, S with
  | [(.str s, .no)], ⟨[], []⟩ => .need (known s = false) (.ret (.tup [A4 0 0 0 0, .bool false], .agg [.no, .no]) ⟨[], []⟩)
  | _, _ => .fail⟩
theorem sound18n : SpecSound cx 18 s18n := by
  refine fn_meets (pre := noPre) (g := gen 18) hm (tabL_cons sound29 tabL_nil) hname (fn := Try.f18) Try.func18 (k := bodyOf Try.f18) rfl .plain (fun _ _ => at_nil) (fun args S K Kp h => ?_)
  unfold s18n at h
  simp only at h
  split at h
  · rename_i s
    obtain ⟨hs, h⟩ := h
    refine vc18 s K Kp ⟨hs, fun r0 h0 r1 h1 => ⟨implB_intro fun e => ?_, implB_intro fun _ r7 h7 => ?_⟩⟩
    · rw [h1, h0] at e; simp at e
    · rw [show r7 = false from h7.trans rfl]; exact h
  · exact h.elim
theorem run18 : ∀ k, k < 12 → Ctx.call cx noPre (fun _ => none) 400 18 [(.str (nm k), .no)] ⟨[], []⟩ = some (.ret (.tup [setOf (wds k), .bool true], .agg [.no, .no]), ⟨[], []⟩)
  | 0, _ => run18_0 | 1, _ => run18_1 | 2, _ => run18_2 | 3, _ => run18_3 | 4, _ => run18_4 | 5, _ => run18_5
  | 6, _ => run18_6 | 7, _ => run18_7 | 8, _ => run18_8 | 9, _ => run18_9 | 10, _ => run18_10 | 11, _ => run18_11
  | k + 12, h => absurd h (by omega)
theorem sound18 : SpecSound cx 18 s18 := by
  intro args S p hp
  unfold Res.is s18 at hp
  simp only at hp
  split at hp
  · rename_i s
    have e := hp _ rfl _ rfl _ rfl _ rfl _ rfl
    subst e
    cases hs : known s with
    | true =>
      obtain ⟨k, hk, rfl⟩ := knownCases hs
      have hrun := run18 k hk
      obtain ⟨_, h2⟩ := knownW k hk
      rw [← h2] at hrun
      exact spec_of_run hm hname hrun
    | false =>
      have h2 := sound18n [(.str s, .no)] ⟨[], []⟩ (.ret (.tup [A4 0 0 0 0, .bool false], .agg [.no, .no]), ⟨[], []⟩) ⟨hs, rfl⟩
      rw [unknownW hs 0 (by decide), unknownW hs 1 (by decide), unknownW hs 2 (by decide), unknownW hs 3 (by decide)]
      exact h2
  · exact hp.elim
theorem sound6 : SpecSound cx 6 s18 := by
  refine fn_meets (pre := noPre) (g := gen 6) hm (tabL_cons sound18 tabL_nil) hname (fn := Try.f6) Try.func6 (k := bodyOf Try.f6) rfl .plain (fun _ _ => at_nil) (fun args S K Kp h => ?_)
  unfold s18 at h
  simp only at h
  split at h
  · rename_i s
    refine vc6 s K Kp fun w0 h0 w1 h1 w2 h2 w3 h3 k hk r hr => ?_
    rw [hr]
    exact h w0 h0 w1 h1 w2 h2 w3 h3 k hk
  · exact h.elim
theorem sound9 : SpecSound cx 9 s9 := by
  intro args S p hp
  unfold Res.is s9 at hp
  simp only at hp
  split at hp
  · have e := hp
    rw [show p = _ from e]
    exact spec_of_run hm hname run9
  · exact hp.elim
theorem is0 (c : Int) : isIn (nm 0) c = ((65 ≤ c && c ≤ 90) || (97 ≤ c && c ≤ 122)) := by unfold isIn; rw [if_pos rfl]
theorem is1 (c : Int) : isIn (nm 1) c = (48 ≤ c && c ≤ 57) := by unfold isIn; rw [if_neg (by decide), if_pos rfl]
theorem is2 (c : Int) : isIn (nm 2) c = ((65 ≤ c && c ≤ 90) || (97 ≤ c && c ≤ 122) || (48 ≤ c && c ≤ 57)) := by unfold isIn; rw [if_neg (by decide), if_neg (by decide), if_pos rfl]
theorem is3 (c : Int) : isIn (nm 3) c = (65 ≤ c && c ≤ 90) := by unfold isIn; rw [if_neg (by decide), if_neg (by decide), if_neg (by decide), if_pos rfl]
theorem is4 (c : Int) : isIn (nm 4) c = (97 ≤ c && c ≤ 122) := by unfold isIn; rw [if_neg (by decide), if_neg (by decide), if_neg (by decide), if_neg (by decide), if_pos rfl]
theorem is5 (c : Int) : isIn (nm 5) c = (c == 32 || (9 ≤ c && c ≤ 13)) := by unfold isIn; rw [if_neg (by decide), if_neg (by decide), if_neg (by decide), if_neg (by decide), if_neg (by decide), if_pos rfl]
theorem is6 (c : Int) : isIn (nm 6) c = (c == 32 || c == 9) := by unfold isIn; rw [if_neg (by decide), if_neg (by decide), if_neg (by decide), if_neg (by decide), if_neg (by decide), if_neg (by decide), if_pos rfl]
theorem is7 (c : Int) : isIn (nm 7) c = (32 < c && c < 127 && !(65 ≤ c && c ≤ 90) && !(97 ≤ c && c ≤ 122) && !(48 ≤ c && c ≤ 57)) := by unfold isIn; rw [if_neg (by decide), if_neg (by decide), if_neg (by decide), if_neg (by decide), if_neg (by decide), if_neg (by decide), if_neg (by decide), if_pos rfl]
theorem is8 (c : Int) : isIn (nm 8) c = (32 ≤ c && c < 127) := by unfold isIn; rw [if_neg (by decide), if_neg (by decide), if_neg (by decide), if_neg (by decide), if_neg (by decide), if_neg (by decide), if_neg (by decide), if_neg (by decide), if_pos rfl]
theorem is9 (c : Int) : isIn (nm 9) c = (32 < c && c < 127) := by unfold isIn; rw [if_neg (by decide), if_neg (by decide), if_neg (by decide), if_neg (by decide), if_neg (by decide), if_neg (by decide), if_neg (by decide), if_neg (by decide), if_neg (by decide), if_pos rfl]
theorem is10 (c : Int) : isIn (nm 10) c = (c < 32 || c == 127) := by unfold isIn; rw [if_neg (by decide), if_neg (by decide), if_neg (by decide), if_neg (by decide), if_neg (by decide), if_neg (by decide), if_neg (by decide), if_neg (by decide), if_neg (by decide), if_neg (by decide), if_pos rfl]
theorem is11 (c : Int) : isIn (nm 11) c = ((48 ≤ c && c ≤ 57) || (65 ≤ c && c ≤ 70) || (97 ≤ c && c ≤ 102)) := by unfold isIn; rw [if_neg (by decide), if_neg (by decide), if_neg (by decide), if_neg (by decide), if_neg (by decide), if_neg (by decide), if_neg (by decide), if_neg (by decide), if_neg (by decide), if_neg (by decide), if_neg (by decide), if_pos rfl]
theorem isNone {s : List UInt8} (hs : known s = false) (c : Int) : isIn s c = false := by
  have hk : ∀ k, k < 12 → ¬ s = nm k := fun k hk e => by
    have := List.any_eq_false.1 hs k (by simpa using hk)
    rw [e] at this; simp at this
  unfold isIn
  rw [if_neg (hk 0 (by decide)), if_neg (hk 1 (by decide)), if_neg (hk 2 (by decide)), if_neg (hk 3 (by decide)), if_neg (hk 4 (by decide)), if_neg (hk 5 (by decide)), if_neg (hk 6 (by decide)), if_neg (hk 7 (by decide)), if_neg (hk 8 (by decide)), if_neg (hk 9 (by decide)), if_neg (hk 10 (by decide)), if_neg (hk 11 (by decide))]
theorem knownNot {s : List UInt8} (h : ∀ k, k < 12 → (s == nm k) = false) : known s = false := by
  unfold known
  rw [List.any_eq_false]
  intro k hk
  rw [h k (by simpa using hk)]; simp
def J7 (c : Int) : List AV → Prop := fun l => l = [.bool (65 ≤ c && c ≤ 90), .bool (97 ≤ c && c ≤ 122), .bool (48 ≤ c && c ≤ 57)]
set_option maxRecDepth 20000 in
theorem sound7 : SpecSound cx 7 s7 := by
  refine fn_meets (pre := noPre) (g := gen 7) hm tabL_nil hname (fn := Try.f7) Try.func7 (k := bodyOf Try.f7) rfl .plain (fun _ _ => at_nil) (fun args S K Kp h => ?_)
  unfold s7 at h
  simp only at h
  split at h
  · rename_i s c
    refine vc7 s c K Kp ⟨J7 c, ?_, ?_⟩
    · repeat' first
        | exact True.intro
        | exact rfl
        | refine implB_intro fun _ => ?_
        | apply And.intro
        | intro _ _
      all_goals (unfold J7; simp_all)
      all_goals omega
    · intro b15 b16 b17 hJ
      unfold J7 at hJ
      simp only [List.cons.injEq, AV.bool.injEq, and_true] at hJ
      obtain ⟨h15, h16, h17⟩ := hJ
      have hkn : ∀ k, k < 12 → known (nm k) = true := fun k hk => (knownW k hk).1
      have hn : ∀ k, k < 12 → s = nm k → ∀ r, r = isIn (nm k) c → K (.tup [.bool r, .bool true], .agg [.no, .no]) ⟨[], []⟩ := fun k hk e r hr => by
        have := h r (by rw [hr, e]) true (by rw [e, hkn k hk])
        exact this
      clear hkn
      refine fun r e0 => ⟨implB_intro fun e => ?_, implB_intro fun e => ?_⟩
      · have H := hn 0 (by decide) (eq_of_beq (e0.symm.trans e))
        rw [is0] at H
        clear hn h e0 e
        repeat' first
          | exact True.intro
          | refine implB_intro fun _ => ?_
          | apply And.intro
          | (refine H _ ?_)
          | intro _ _
        all_goals simp_all
        all_goals omega
      have n0 : (s == nm 0) = false := e0.symm.trans e
      clear e0 e
      refine fun r e0 => ⟨implB_intro fun e => ?_, implB_intro fun e => ?_⟩
      · have H := hn 1 (by decide) (eq_of_beq (e0.symm.trans e))
        rw [is1] at H
        clear hn h e0 e
        repeat' first
          | exact True.intro
          | refine implB_intro fun _ => ?_
          | apply And.intro
          | (refine H _ ?_)
          | intro _ _
        all_goals simp_all
        all_goals omega
      have n1 : (s == nm 1) = false := e0.symm.trans e
      clear e0 e
      refine fun r e0 => ⟨implB_intro fun e => ?_, implB_intro fun e => ?_⟩
      · have H := hn 2 (by decide) (eq_of_beq (e0.symm.trans e))
        rw [is2] at H
        clear hn h e0 e
        repeat' first
          | exact True.intro
          | refine implB_intro fun _ => ?_
          | apply And.intro
          | (refine H _ ?_)
          | intro _ _
        all_goals simp_all
        all_goals omega
      have n2 : (s == nm 2) = false := e0.symm.trans e
      clear e0 e
      refine fun r e0 => ⟨implB_intro fun e => ?_, implB_intro fun e => ?_⟩
      · have H := hn 3 (by decide) (eq_of_beq (e0.symm.trans e))
        rw [is3] at H
        clear hn h e0 e
        repeat' first
          | exact True.intro
          | refine implB_intro fun _ => ?_
          | apply And.intro
          | (refine H _ ?_)
          | intro _ _
        all_goals simp_all
        all_goals omega
      have n3 : (s == nm 3) = false := e0.symm.trans e
      clear e0 e
      refine fun r e0 => ⟨implB_intro fun e => ?_, implB_intro fun e => ?_⟩
      · have H := hn 4 (by decide) (eq_of_beq (e0.symm.trans e))
        rw [is4] at H
        clear hn h e0 e
        repeat' first
          | exact True.intro
          | refine implB_intro fun _ => ?_
          | apply And.intro
          | (refine H _ ?_)
          | intro _ _
        all_goals simp_all
        all_goals omega
      have n4 : (s == nm 4) = false := e0.symm.trans e
      clear e0 e
      refine fun r e0 => ⟨implB_intro fun e => ?_, implB_intro fun e => ?_⟩
      · have H := hn 5 (by decide) (eq_of_beq (e0.symm.trans e))
        rw [is5] at H
        clear hn h e0 e
        repeat' first
          | exact True.intro
          | refine implB_intro fun _ => ?_
          | apply And.intro
          | (refine H _ ?_)
          | intro _ _
        all_goals simp_all
        all_goals omega
      have n5 : (s == nm 5) = false := e0.symm.trans e
      clear e0 e
      refine fun r e0 => ⟨implB_intro fun e => ?_, implB_intro fun e => ?_⟩
      · have H := hn 6 (by decide) (eq_of_beq (e0.symm.trans e))
        rw [is6] at H
        clear hn h e0 e
        repeat' first
          | exact True.intro
          | refine implB_intro fun _ => ?_
          | apply And.intro
          | (refine H _ ?_)
          | intro _ _
        all_goals simp_all
        all_goals omega
      have n6 : (s == nm 6) = false := e0.symm.trans e
      clear e0 e
      refine fun r e0 => ⟨implB_intro fun e => ?_, implB_intro fun e => ?_⟩
      · have H := hn 7 (by decide) (eq_of_beq (e0.symm.trans e))
        rw [is7] at H
        clear hn h e0 e
        repeat' first
          | exact True.intro
          | refine implB_intro fun _ => ?_
          | apply And.intro
          | (refine H _ ?_)
          | intro _ _
        all_goals simp_all
        all_goals omega
      have n7 : (s == nm 7) = false := e0.symm.trans e
      clear e0 e
      refine fun r e0 => ⟨implB_intro fun e => ?_, implB_intro fun e => ?_⟩
      · have H := hn 8 (by decide) (eq_of_beq (e0.symm.trans e))
        rw [is8] at H
        clear hn h e0 e
        repeat' first
          | exact True.intro
          | refine implB_intro fun _ => ?_
          | apply And.intro
          | (refine H _ ?_)
          | intro _ _
        all_goals simp_all
        all_goals omega
      have n8 : (s == nm 8) = false := e0.symm.trans e
      clear e0 e
      refine fun r e0 => ⟨implB_intro fun e => ?_, implB_intro fun e => ?_⟩
      · have H := hn 9 (by decide) (eq_of_beq (e0.symm.trans e))
        rw [is9] at H
        clear hn h e0 e
        repeat' first
          | exact True.intro
          | refine implB_intro fun _ => ?_
          | apply And.intro
          | (refine H _ ?_)
          | intro _ _
        all_goals simp_all
        all_goals omega
      have n9 : (s == nm 9) = false := e0.symm.trans e
      clear e0 e
      refine fun r e0 => ⟨implB_intro fun e => ?_, implB_intro fun e => ?_⟩
      · have H := hn 10 (by decide) (eq_of_beq (e0.symm.trans e))
        rw [is10] at H
        clear hn h e0 e
        repeat' first
          | exact True.intro
          | refine implB_intro fun _ => ?_
          | apply And.intro
          | (refine H _ ?_)
          | intro _ _
        all_goals simp_all
        all_goals omega
      have n10 : (s == nm 10) = false := e0.symm.trans e
      clear e0 e
      refine fun r e0 => ⟨implB_intro fun e => ?_, implB_intro fun e => ?_⟩
      · have H := hn 11 (by decide) (eq_of_beq (e0.symm.trans e))
        rw [is11] at H
        clear hn h e0 e
        repeat' first
          | exact True.intro
          | refine implB_intro fun _ => ?_
          | apply And.intro
          | (refine H _ ?_)
          | intro _ _
        all_goals simp_all
        all_goals omega
      have n11 : (s == nm 11) = false := e0.symm.trans e
      clear e0 e
      have hu : known s = false := knownNot fun k hk => match k, hk with
        | 0, _ => n0 | 1, _ => n1 | 2, _ => n2 | 3, _ => n3 | 4, _ => n4 | 5, _ => n5 | 6, _ => n6 | 7, _ => n7 | 8, _ => n8 | 9, _ => n9 | 10, _ => n10 | 11, _ => n11
        | k + 12, h => absurd h (by omega)
      exact h _ (isNone hu c).symm _ hu.symm
  · exact h.elim
theorem tab3 : TabSound cx (tabL (calls 3)) := tabL_cons sound6 (tabL_cons sound7 (tabL_cons sound8 (tabL_cons sound9 tabL_nil)))
theorem loop3 : subR [0, 1, 0, 1, 1] (bodyOf Try.f3) = .loop (subR [0, 0, 1, 0, 1, 1] (bodyOf Try.f3)) := by kernel_rfl
def I3 (s : List UInt8) (k : Bool) (S : St) (m : Nat) (fr : Fr) (S' : St) : Prop := ∃ i : Int, 0 ≤ i ∧ i ≤ 256 ∧ m = (256 - i).toNat ∧ fr = fr3 s k i ∧ S' = S
theorem at3 : AtSound cx 0 0 (gen 3) (bodyOf Try.f3) := by
  refine at_cons ?_ at_nil
  intro fr S Q hL
  obtain ⟨s, k, w0, w1, w2, w3, rfl, rfl, hin, hk, hQ⟩ := hL
  rw [loop3]
  refine CodeH.loopW (I3 s k ⟨[blk4 w0 w1 w2 w3], []⟩) ?_ (m := 256) ⟨0, by decide, by decide, rfl, rfl, rfl⟩
  intro m fr S hI
  obtain ⟨i, h0, h1, rfl, rfl, rfl⟩ := hI
  refine codeW_sound (e := ev 3 0 0) (g := genD 3 1) rfl rfl rfl hm tab3 (root := bodyOf Try.f3) at_nil _ [0, 0, 1, 0, 1, 1] rfl _ _ _ ?_
  refine vc3b s k i w0 w1 w2 w3 _ ?_
  refine fun r0 e0 => ⟨implB_intro fun e x1 e1 x2 e2 r3 e3 r4 e4 r5 e5 => ?_, implB_intro fun _ => ?_⟩
  · have hlt : i < 256 := by rw [e] at e0; simpa using e0.symm
    have h5 : r5 = i := by rw [e5, IntKind.wrap_u8]; omega
    refine ⟨by omega, fun x6 e6 r7 e7 => ⟨implB_intro fun _ => ⟨⟨fun r8 e8 => ⟨implB_intro fun e => ?_, implB_intro fun _ r9 e9 => ?_⟩, trivial⟩, trivial⟩, implB_intro fun e => ?_⟩⟩
    · rw [e8, e4, e2, hk] at e; simp at e
    · refine ⟨(256 - (i + 1)).toNat, fr3 s k (i + 1), _, by omega, Wkn.frame ?_, i + 1, by omega, by omega, rfl, rfl, rfl⟩
      have h9 : r9 = i + 1 := by rw [e9, IntKind.wrap_i64]; omega
      rw [h9]
      repeat' first
        | exact .nil
        | refine .keep ?_
        | refine .drop ?_
    · have h := hin i.toNat (by omega)
      rw [show ((i.toNat : Nat) : Int) = i by omega] at h
      rw [e7, e6, h5, h, e3, e1] at e; simp at e
  · refine ⟨fr3 s k i, _, Wkn.frame ?_, hQ i⟩
    repeat' first
      | exact .nil
      | refine .keep ?_
      | refine .drop ?_
theorem law_known : ∀ k, k < 12 → ∀ c, c < 256 → hasZ (namedW (nm k) 0) (namedW (nm k) 1) (namedW (nm k) 2) (namedW (nm k) 3) ((c : Nat) : Int) = isIn (nm k) c := by decide +kernel
theorem law_none : ∀ c, c < 256 → hasZ 0 0 0 0 ((c : Nat) : Int) = false := by decide +kernel
theorem law_all (s : List UInt8) (c : Nat) (hc : c < 256) : hasZ (namedW s 0) (namedW s 1) (namedW s 2) (namedW s 3) ((c : Nat) : Int) = isIn s c := by
  cases hs : known s with
  | true => obtain ⟨k, hk, rfl⟩ := knownCases hs; exact law_known k hk c hc
  | false =>
    rw [unknownW hs 0 (by decide), unknownW hs 1 (by decide), unknownW hs 2 (by decide), unknownW hs 3 (by decide), isNone hs]
    exact law_none c hc
def s3 : Go.Ab.Spec := ⟨false, fun args S => match args, S with
  | [(.str _, .no)], ⟨[], []⟩ => .ret (.bool true, .no) ⟨[], []⟩
  | _, _ => .fail⟩
theorem sound3 : SpecSound cx 3 s3 := by
  refine fn_meets2 (pre := noPre) (g := gen 3) hm tab3 hname (fn := Try.f3) Try.func3 (k := bodyOf Try.f3) rfl .plain (fun args S K Kp h => ?_)
  unfold s3 at h
  simp only at h
  split at h
  · rename_i s
    refine ⟨at3, vc3 s K Kp ?_⟩
    intro x0 h0 x1 h1 x2 h2 x3 h3 x4 h4 r5 h5
    refine ⟨s, r5, x0, x1, x2, x3, rfl, rfl, ?_, by rw [h5, h4], fun _ => h⟩
    intro c hc
    rw [h0, h1, h2, h3]
    exact law_all s c hc
  · exact h.elim
section
open Go.RowKit
theorem walk_of_spec {c : Ctx} {sp : Go.Ab.Spec} {f : FuncId} (hs : SpecSound c f sp) {args : List SV} {tg : Tag} {S' : St} (h : (sp.res args ⟨[], []⟩).is (.ret (.bool true, tg), S')) {fn : Func} {k : Code} (hf : c.P.funcs[f]? = some fn) (hb : fn.body = some k)
    (hn : (fn.name == "runtime.NumGoroutine") = false) (vs : Array Value) (W : World) (hg : GlobOk c W) (ha : RArgs (ghost0 W) [] args vs) : Calls c.P f vs W fun e w' => e = .returned (.bool true) ∧ Below W.heap.size W w' := by
  rcases hs args ⟨[], []⟩ _ h ⟨(· < W.heap.size), (ghost0 W).I⟩ W (ghost0 W) W vs (inv0 hg) ha with ⟨_, hc⟩ | ⟨v, w', hr, _⟩
  · refine hc.mono fun e w' ⟨G', i', _, ho⟩ => ?_
    cases e with
    | returned v =>
      have h1 : R G' (.bool true) v := ho.1
      cases h1
      exact ⟨rfl, i'.below.os, i'.below.tape, i'.below.output, i'.below.size, i'.below.block⟩
    | panicked => exact ho.elim
    | outgrown => exact ho.elim
  · rw [enter_run hf hn hb] at hr; cases hr
end
theorem rargs1 {G : Gh} {T : List Nat} {x : SV} {v : Value} (h : RS G T x v) : RArgs G T [x] #[v] := ⟨rfl, fun i h1 h2 => by
  have e : i = 0 := by simp at h1; omega
  subst e
  exact h⟩
theorem walkNames (a : ByteArray) (_ : a.size ≤ 140737488351232) (W : World) : Calls Try.prog 3 #[.string a] W fun e w' => e = .returned (.bool true) ∧ Go.RowKit.Below W.heap.size W w' :=
  walk_of_spec (c := cx) sound3 (args := [(.str a.data.toList, .no)]) (tg := .no) (S' := ⟨[], []⟩) rfl (fn := Try.f3) Try.func3 (k := bodyOf Try.f3) rfl (hname 3 Try.f3 Try.func3) _ W (fun _ _ h => by cases h) (rargs1 (str_arg _ _ a))
end Go.Proofs.Ytdiphholophdcaa.V
namespace Go.Proofs.Ytdiphholophdcaa.classNames
open Go.ChangeShapes Go.WideShapes Go.ChangeAt Go.RowKit
open Go.ChangeMaps (open_string shut_string)
theorem own : ownKnob Try.prog.godebug = none := by kernel_rfl
set_option maxRecDepth 100000 in
theorem lifted (os : Os) (started : os.Started) (H : Type) (enc : TypeId × Value → H) :
    ReturnsInHanded {} Try.checked os 3 .any (Rows.classNamesSpec.pre6 enc Try.prog Try.f3 Rows.classNamesRow.domain false) (Rows.classNamesSpec.post enc Try.prog Try.f3 false true false false) := by
  refine returnsInHanded_of_change_sized (C := Try.checked) own started (by kernel_rfl) Try.func3
    (ChangeSpec.witness6 (enc := enc) (C := Try.checked) false ⟨#[], #[.string ByteArray.empty], []⟩ 8 (by kernel_rfl) (by kernel_rfl) (by kernel_rfl) (by kernel_rfl)) ?_
  intro W base args ds gs before hval0 hW hcnd hsz0 _
  have hsz : (DataW.weightsEach Try.prog (Try.f3.params.toList ++ Rows.classNamesSpec.plain.varTypes Try.prog) (ds ++ gs)).all (· ≤ reachBytes) = true := hsz0
  have hval : ∀ (j : Nat) t v, Try.f3.params[j]? = some t → args[j]? = some v → Value.okWide Try.prog W .any base t v := hval0
  have hW' := hW
  obtain ⟨p, q, hA0, hV, rfl, hfz, hnd⟩ := hW
  have hA : DataW.TrodAll enc Try.prog W 0 (fun _ => true) true Try.f3.params.toList args.toList ds p := hA0
  rw [Try.params3] at hA hval hsz
  obtain ⟨v0, vs0, d0, ds0, p0, q0, hargs, rfl, rfl, h0, r0⟩ := trodAll_cons hA
  obtain ⟨rfl, rfl, rfl⟩ := trodAll_nil r0
  obtain rfl : args = #[v0] := by cases args; simp_all
  obtain ⟨rfl, rfl⟩ := trodVars_none hV
  obtain ⟨a0, rfl, rfl, rfl, y0⟩ := open_string Try.underlying9 (hval 0 9 v0 rfl rfl) h0
  have w0 : a0.size ≤ 140737488351232 := by
    have z := sized_string hsz (j := 0) (t := 9) rfl rfl
    rw [Array.length_toList] at z
    exact z
  clear hA0 hval0 hsz0 hsz
  refine (V.walkNames a0 w0 W).mono fun e W' ⟨he, bel⟩ => ?_
  subst he
  exact ⟨_, rfl, _, _, _, [], _, [], hW', trodAll_mk1 (shut_bool Try.underlying4 _), (trodAll_cons_mk (shut_string Try.underlying9 y0) trodAll_mk0), rfl, bel.frame _, fun h => by cases h⟩
theorem over : Rows.classNamesRow.holds Go.Proofs.Ytdiphholophdcaa.Try.pinned (OpenSpec.ofChange Rows.classNamesSpec) :=
  OpenClaim.holds_of_wide 3 Try.f3 rfl rfl rfl rfl rfl rfl rfl ⟨rfl, rfl, rfl, rfl, rfl⟩ rfl rfl rfl rfl rfl (by kernel_rfl) Try.func3 (by kernel_rfl)
    (of_decide_eq_true (by kernel_rfl)) (by unfold Func.isWrapper; first | (rw [if_pos (by decide +kernel)]; kernel_rfl) | (rw [if_neg (by decide +kernel)]; exact ⟨rfl, rfl⟩))
    (fun os started H enc _ => lifted os started H enc)
end Go.Proofs.Ytdiphholophdcaa.classNames
namespace Go.Proofs.Ytdiphholophdcaa
/-- The row, under a short name, for the claim. -/
theorem classNames_holds : Rows.ClassNamesSaid := classNames.over
#print axioms classNames_holds
end Go.Proofs.Ytdiphholophdcaa

