import Derived.KernelRfl
import Derived.Shelf.Strings.Search3
import Derived.Shelf.Strings.Fields
import Derived.Shelf.Slices.Clone
import Derived.Test.YtdiphholophdcabGreatDoorProg
import Derived.Test.YtdiphholophdcabGreatDoorXSAbB4
import Derived.Test.YtdiphholophdcabGreatDoorXSAbT4
import Derived.Lib.Walk
import Derived.WalkKit
import Derived.ProofKit
import Derived.SizedLaws
import Derived.LaidMore
import Derived.Shelf.Vars
import Derived.Lib.LaidTab
set_option linter.all false
section
/-
  DERIVED: THE SHELF's CONTRACTS AT THIS DUMP, IN PLAIN WORDS (tools/lay-plain.mjs out of 'TryzShelf.lean', which tools/lay-shelf.mjs wrote): THE SAME DECLARATIONS UNDER THE SAME NAMES: 'import', 'namespace', 'open', 'def', 'theorem' AND NOTHING ELSE: no command of the shelf's: FOR A HAND-IN. Each laying: the table of numbers ('.._ren') and one theorem, a field a fact of the dump's own or the kernel's comparison; each contract: ONE APPLICATION.
-/
namespace Go.Proofs
open Go.Shelf
def Tryz.lays144_ren : Go.Shelf.Ren := ⟨fun | 144 => 222 | 143 => 171 | 219 => 204 | 217 => 232 | 225 => 233 | 224 => 234 | 267 => 235 | 266 => 254 | 314 => 255 | n => n, fun | 9 => 9 | 4 => 4 | 3 => 3 | 5 => 5 | 46 => 213 | 146 => 225 | 51 => 224 | n => n, fun | 1 => 1 | n => n⟩
theorem Tryz.lays144 : Go.Proofs.Lays.n144 Tryz.prog Tryz.lays144_ren := {
  mixed := by kernel_rfl
  f143 := Tryz.func171.trans (congrArg some (by kernel_rfl))
  f144 := Tryz.func222.trans (congrArg some (by kernel_rfl))
  f217 := Tryz.func232.trans (congrArg some (by kernel_rfl))
  f219 := Tryz.func204.trans (congrArg some (by kernel_rfl))
  f224 := Tryz.func234.trans (congrArg some (by kernel_rfl))
  f225 := Tryz.func233.trans (congrArg some (by kernel_rfl))
  f266 := Tryz.func254.trans (congrArg some (by kernel_rfl))
  f267 := Tryz.func235.trans (congrArg some (by kernel_rfl))
  f314 := Tryz.func255.trans (congrArg some (by kernel_rfl))
  t3 := Tryz.underlying3
  a3 := Tryz.isAgg3
  z3 := Tryz.sizeOf3
  v3 := Tryz.zeroValue3
  t4 := Tryz.underlying4
  a4 := Tryz.isAgg4
  z4 := Tryz.sizeOf4
  v4 := Tryz.zeroValue4
  t5 := Tryz.underlying5
  a5 := Tryz.isAgg5
  z5 := Tryz.sizeOf5
  v5 := Tryz.zeroValue5
  t9 := Tryz.underlying9
  a9 := Tryz.isAgg9
  z9 := Tryz.sizeOf9
  v9 := Tryz.zeroValue9
  t46 := Tryz.underlying213
  a46 := Tryz.isAgg213
  z46 := Tryz.sizeOf213
  v46 := Tryz.zeroValue213
  t51 := Tryz.underlying224
  a51 := Tryz.isAgg224
  z51 := Tryz.sizeOf224
  v51 := Tryz.zeroValue224
  t146 := Tryz.underlying225
  a146 := Tryz.isAgg225
  z146 := Tryz.sizeOf225
  v146 := Tryz.zeroValue225
  g1 := by kernel_rfl }
open Go.RowKit Go.Lib in
/-- strings.Contains: "Contains reports whether substr is within s.": IT RETURNS 'Lib.contains s substr'; the world is as it was. (LAID: no walk: one application.) -/
theorem Tryz.strings_Contains (s sub : ByteArray) (m : Int) (w : World) (hs : s.size < 4294967281) (hm : w.cell? ⟨1, 0, none⟩ = some (.int .i64 m)) :
    Calls Tryz.prog 222 #[.string s, .string sub] w fun e w' => e = .returned (.bool (Lib.contains s.data.toList sub.data.toList)) ∧ w' = w := Any.strings_Contains Tryz.lays144 s sub m w hs hm
def Tryz.lays157_ren : Go.Shelf.Ren := ⟨fun | 157 => 237 | 229 => 256 | 199 => 257 | 261 => 268 | 311 => 274 | 312 => 275 | n => n, fun | 9 => 9 | 31 => 23 | 3 => 3 | 5 => 5 | 4 => 4 | 119 => 214 | 0 => 0 | 40 => 228 | 152 => 229 | 21 => 21 | 154 => 231 | 51 => 224 | 141 => 233 | 196 => 238 | 193 => 235 | 198 => 241 | 49 => 239 | 194 => 236 | 201 => 244 | 226 => 246 | 46 => 213 | 227 => 247 | n => n, fun | 0 => 4 | 6 => 5 | n => n⟩
theorem Tryz.lays157 : Go.Proofs.Lays.n157 Tryz.prog Tryz.lays157_ren := {
  mixed := by kernel_rfl
  f157 := Tryz.func237.trans (congrArg some (by kernel_rfl))
  f199 := Tryz.func257.trans (congrArg some (by kernel_rfl))
  f229 := Tryz.func256.trans (congrArg some (by kernel_rfl))
  f261 := Tryz.func268.trans (congrArg some (by kernel_rfl))
  f311 := Tryz.func274.trans (congrArg some (by kernel_rfl))
  f312 := Tryz.func275.trans (congrArg some (by kernel_rfl))
  t0 := Tryz.underlying0
  a0 := Tryz.isAgg0
  z0 := Tryz.sizeOf0
  v0 := Tryz.zeroValue0
  t3 := Tryz.underlying3
  a3 := Tryz.isAgg3
  z3 := Tryz.sizeOf3
  v3 := Tryz.zeroValue3
  t4 := Tryz.underlying4
  a4 := Tryz.isAgg4
  z4 := Tryz.sizeOf4
  v4 := Tryz.zeroValue4
  t5 := Tryz.underlying5
  a5 := Tryz.isAgg5
  z5 := Tryz.sizeOf5
  v5 := Tryz.zeroValue5
  t9 := Tryz.underlying9
  a9 := Tryz.isAgg9
  z9 := Tryz.sizeOf9
  v9 := Tryz.zeroValue9
  t21 := Tryz.underlying21
  a21 := Tryz.isAgg21
  z21 := Tryz.sizeOf21
  v21 := Tryz.zeroValue21
  t31 := Tryz.underlying23
  a31 := Tryz.isAgg23
  z31 := Tryz.sizeOf23
  v31 := Tryz.zeroValue23
  t40 := Tryz.underlying228
  a40 := Tryz.isAgg228
  z40 := Tryz.sizeOf228
  v40 := Tryz.zeroValue228
  t46 := Tryz.underlying213
  a46 := Tryz.isAgg213
  z46 := Tryz.sizeOf213
  v46 := Tryz.zeroValue213
  t49 := Tryz.underlying239
  a49 := Tryz.isAgg239
  z49 := Tryz.sizeOf239
  v49 := Tryz.zeroValue239
  t51 := Tryz.underlying224
  a51 := Tryz.isAgg224
  z51 := Tryz.sizeOf224
  v51 := Tryz.zeroValue224
  t119 := Tryz.underlying214
  a119 := Tryz.isAgg214
  z119 := Tryz.sizeOf214
  t141 := Tryz.underlying233
  a141 := Tryz.isAgg233
  z141 := Tryz.sizeOf233
  v141 := Tryz.zeroValue233
  t152 := Tryz.underlying229
  a152 := Tryz.isAgg229
  z152 := Tryz.sizeOf229
  v152 := Tryz.zeroValue229
  t154 := Tryz.underlying231
  a154 := Tryz.isAgg231
  z154 := Tryz.sizeOf231
  v154 := Tryz.zeroValue231
  t193 := Tryz.underlying235
  a193 := Tryz.isAgg235
  z193 := Tryz.sizeOf235
  v193 := Tryz.zeroValue235
  t194 := Tryz.underlying236
  a194 := Tryz.isAgg236
  z194 := Tryz.sizeOf236
  v194 := Tryz.zeroValue236
  t196 := Tryz.underlying238
  a196 := Tryz.isAgg238
  z196 := Tryz.sizeOf238
  v196 := Tryz.zeroValue238
  t198 := Tryz.underlying241
  a198 := Tryz.isAgg241
  z198 := Tryz.sizeOf241
  v198 := Tryz.zeroValue241
  t201 := Tryz.underlying244
  a201 := Tryz.isAgg244
  z201 := Tryz.sizeOf244
  v201 := Tryz.zeroValue244
  t226 := Tryz.underlying246
  a226 := Tryz.isAgg246
  z226 := Tryz.sizeOf246
  v226 := Tryz.zeroValue246
  t227 := Tryz.underlying247
  a227 := Tryz.isAgg247
  z227 := Tryz.sizeOf247
  v227 := Tryz.zeroValue247
  g0 := by kernel_rfl
  g6 := by kernel_rfl }
open Go.RowKit Go.Lib in
/-- strings.Fields, the table by 'Lib.TabIs' (as strings.TrimSpace's contract). 'hg': the table's number, by its name: at a dump 'by kernel_rfl'. (LAID: no walk: one application.) -/
theorem Tryz.strings_Fields (s : ByteArray) (w : World) (hs : s.size < 4294967281) (hascii : ∀ (j : Nat) b, s.data.toList[j]? = some b → b.toNat < 128) (htab : Lib.TabIs Tryz.prog w "strings.asciiSpace" .u8 Lib.asciiSpaceTab) :
    Calls Tryz.prog 237 #[.string s] w fun e w' =>
      e = .returned (.slice (some ⟨w.heap.size, 0, none⟩) (Lib.fields s.data.toList).length (Lib.fields s.data.toList).length) ∧ w' = w.alloc (.cells ((Lib.fields s.data.toList).map fun l => Value.string ⟨l.toArray⟩).toArray 9) := Any.strings_Fields Tryz.lays157 (by kernel_rfl) (by kernel_rfl) s w hs hascii htab
def Tryz.laysNm216_ren : Go.Shelf.Ren := ⟨fun | 16 => 76 | n => n, fun | 24 => 23 | 9 => 9 | 4 => 4 | n => n, fun | n => n⟩
theorem Tryz.laysNm216 : Go.Proofs.Lays2.n16 Tryz.prog Tryz.laysNm216_ren := {
  mixed := by kernel_rfl
  f16 := Tryz.func76.trans (congrArg some (by kernel_rfl))
  t4 := Tryz.underlying4
  a4 := Tryz.isAgg4
  z4 := Tryz.sizeOf4
  v4 := Tryz.zeroValue4
  t9 := Tryz.underlying9
  a9 := Tryz.isAgg9
  z9 := Tryz.sizeOf9
  v9 := Tryz.zeroValue9
  t24 := Tryz.underlying23
  a24 := Tryz.isAgg23
  z24 := Tryz.sizeOf23
  v24 := Tryz.zeroValue23
  i9 := by kernel_rfl }
open Go.RowKit Go.Lib in
/-- slices.Clone at []string: "Clone returns a copy of the slice. The elements are copied using assignment, so this is a shallow clone. The result may have additional unused capacity. The result preserves the nilness of s.": OF A SLICE THAT IS NOT nil IT RETURNS A SLICE THAT IS NOT nil, OF THE SAME ELEMENTS, IN MEMORY OF THE CALL's OWN: in the how-to's words (6f): 'w'.ownsRow B e 1 v' n cells': v' begins at the head of a row among the blocks from B on (B: the heap's size at the call), not frozen, whose first cells are the elements · 'Below B w w'': below B all is as it was. The capacity is whatever the run-time gives. 'zs': what the cells behind the slice's address hold; 'zs.take n': its elements. (LAID: no walk: one application.) -/
theorem Tryz.slices_Clone_string (b off n c : Nat) (zs : List ByteArray) (w : World) (hz : n ≤ zs.length) (hbig : n * 16 ≤ 140737488355328) (hc : ∀ j, j < zs.length → w.cell? ⟨b, off + j, none⟩ = some (.string (zs.getD j ByteArray.empty))) :
    Calls Tryz.prog 76 #[.slice (some ⟨b, off, none⟩) n c] w fun e w' => ∃ v', e = .returned v' ∧ w'.ownsRow w.heap.size 9 1 v' n ((zs.take n).map (Value.string)) ∧ v' ≠ .slice none 0 0 ∧ Below w.heap.size w w' := Any.slices_Clone_string Tryz.laysNm216 b off n c zs w hz hbig hc
open Go.RowKit Go.Lib in
/-- The same at nil: nil comes back; the world is as it was. (LAID: no walk: one application.) -/
theorem Tryz.slices_Clone_string_nil (n c : Nat) (w : World) :
    Calls Tryz.prog 76 #[.slice none n c] w fun e w' => e = .returned (.slice none 0 0) ∧ w' = w := Any.slices_Clone_string_nil Tryz.laysNm216 n c w
open Go.RowKit Go.Lib in
/-- The same at a slice of length 0 that is not nil, WHATEVER ITS ADDRESS (no cell is asked for): a slice that is not nil and owns nothing comes back. (LAID: no walk: one application.) -/
theorem Tryz.slices_Clone_string_zero (a : Addr) (c : Nat) (w : World) :
    Calls Tryz.prog 76 #[.slice (some a) 0 c] w fun e w' => ∃ v', e = .returned v' ∧ w'.ownsRow w.heap.size 9 1 v' 0 [] ∧ v' ≠ .slice none 0 0 ∧ Below w.heap.size w w' := Any.slices_Clone_string_zero Tryz.laysNm216 a c w
end Go.Proofs
end
section
open Go Go.Ab
namespace Go.Proofs.YtdiphholophdcabGreatDoor.T
set_option maxHeartbeats 1000000 in
set_option maxRecDepth 100000 in
theorem copyCheck_used (b : Nat) (w : World) (h0 : w.cell? ⟨b, 0, none⟩ = some (.pointer (some ⟨b, 0, none⟩))) :
    Calls Tryz.prog 168 #[.pointer (some ⟨b, 0, none⟩)] w fun e w' => e = .returned (.tuple #[]) ∧ w' = w := by
  have sz : (Tryz.prog.info? 142).map (·.size) = some 2 := by kernel_rfl
  obtain ⟨j, hj, _⟩ := Option.map_eq_some_iff.1 sz
  go_enter Tryz.func168, Tryz.ntmps168
  go_wp2
  rw [Lib.run_neq_ptr_same w _ (by kernel_rfl : Tryz.prog.underlying 140 = some (.pointer 142)) hj]
  go_wp2
  go_end0
  exact ⟨rfl, rfl⟩

set_option maxHeartbeats 1000000 in
set_option maxRecDepth 100000 in
theorem copyCheck_fresh (b : Nat) (w : World) (h0 : w.cell? ⟨b, 0, none⟩ = some (.pointer none)) (hsh : w.shape? b = some (142, 2)) (hfz : w.frozen? ⟨b, 0, none⟩ = false) :
    Calls Tryz.prog 168 #[.pointer (some ⟨b, 0, none⟩)] w fun e w' => e = .returned (.tuple #[]) ∧ w' = w.setCell ⟨b, 0, none⟩ (.pointer (some ⟨b, 0, none⟩)) := by
  have sz : (Tryz.prog.info? 142).map (·.size) = some 2 := by kernel_rfl
  have lies : liesAt Tryz.prog Tryz.prog.depth 142 (2 / Tryz.prog.cellsOf 142) 0 142 1 = true := by kernel_rfl
  obtain ⟨j, hj, hjs⟩ := Option.map_eq_some_iff.1 sz
  have u140 : Tryz.prog.underlying 140 = some (.pointer 142) := by kernel_rfl
  have u202 : Tryz.prog.underlying 202 = some .unsafePointer := by kernel_rfl
  go_enter Tryz.func168, Tryz.ntmps168
  go_wp2
  rw [Lib.run_to_unsafe w ⟨b, 0, none⟩ u140 u202 hj (by rw [hjs]; decide) hsh (Nat.zero_lt_succ 1)]
  simp only [Result.andThen]
  rw [Oper.upon_value]
  go_wp2
  rw [run_callFunc_extern Tryz.func200 (by kernel_rfl) (by kernel_rfl) (by kernel_rfl) (e := Extern.AbiNoEscape.same) (by kernel_rfl)]
  rw [Lib.run_noEscape]
  simp only [Result.andThen]
  rw [Oper.upon_value]
  go_wp2
  rw [Lib.run_from_unsafe w ⟨b, 0, none⟩ u202 u140 hj hsh lies]
  simp only [Result.andThen]
  rw [Oper.upon_value]
  go_wp2
  go_end0
  exact ⟨rfl, rfl⟩
theorem ext168 : ExtSound cx 168 (extCopyCheck 142) := extCopyCheck_sound (fun vs w => enter_run Tryz.func168 (hname 168 _ Tryz.func168) (k := bodyOf Tryz.f168) rfl vs w) copyCheck_fresh copyCheck_used
theorem ext254 : ExtSound cx 254 extIndexByteString := extIndexByteString_sound Tryz.func254 (hname 254 _ Tryz.func254) (by kernel_rfl) (by kernel_rfl) (by kernel_rfl)
theorem ext222 : ExtSound cx 222 extContains := extContains_sound (g := 1) (fun vs w => enter_run Tryz.func222 (hname 222 _ Tryz.func222) (k := bodyOf Tryz.f222) rfl vs w) (fun _ _ h => h.1) fun s sub m w hs hm => Tryz.strings_Contains s sub m w hs hm
theorem ext237 : ExtSound cx 237 extFields := extFields_sound (g := 4) (name := "strings.asciiSpace") (zs := Lib.asciiSpaceTab) (fun vs w => enter_run Tryz.func237 (hname 237 _ Tryz.func237) (k := bodyOf Tryz.f237) rfl vs w) (fun _ _ h => h.2) (by kernel_rfl) fun s w hs ha ht => Tryz.strings_Fields s w hs ha ht
theorem ext76 : ExtSound cx 76 extClone := extClone_sound (t9 := 9) (fun vs w => enter_run Tryz.func76 (hname 76 _ Tryz.func76) (k := bodyOf Tryz.f76) rfl vs w) (fun n k w => Tryz.slices_Clone_string_nil n k w) (fun a k w => Tryz.slices_Clone_string_zero a k w) fun b off n k zs w h1 h2 h3 => Tryz.slices_Clone_string b off n k zs w h1 h2 h3
theorem ext303 : ExtSound cx 303 extAdd64 := extAdd64_sound Tryz.func303 (hname 303 _ Tryz.func303) (by kernel_rfl) (by kernel_rfl) (e := ((Extern.MathBitsCarry.rows.map (·.2)).headD fun _ => pure (.tuple #[]))) (by kernel_rfl) rfl
theorem sound76 : SpecSound cx 76 specClone := specClone_sound ext76
/-- the functions that the run is given -/
def extT : FuncId → Option ExtFn
  | 76 => some extClone
  | 222 => some extContains
  | 168 => some (extCopyCheck 142)
  | 237 => some extFields
  | 254 => some extIndexByteString
  | 303 => some extAdd64
  | _ => none
theorem extT_sound : ∀ f g, extT f = some g → ExtSound cx f g := by
  intro f g h
  unfold extT at h
  split at h
  · cases h; exact ext76
  · cases h; exact ext222
  · cases h; exact ext168
  · cases h; exact ext237
  · cases h; exact ext254
  · cases h; exact ext303
  · cases h
end Go.Proofs.YtdiphholophdcabGreatDoor.T
end
section
/- A LONG RUN IN PIECES: calls whose outcomes are known already are looked up. -/
namespace Go.Ab
structure Memo where
  f : FuncId
  args : List SV
  S : St
  out : COut
  S' : St
def blksEq : List Blk → List Blk → Bool
  | [], [] => true
  | a :: x, b :: y => SV.beqs a b && blksEq x y
  | _, _ => false
theorem blksEq_eq : ∀ {a b : List Blk}, blksEq a b = true → a = b
  | [], [], _ => rfl
  | [], _ :: _, h => by cases h
  | _ :: _, [], h => by cases h
  | a :: x, b :: y, h => by
    simp only [blksEq, Bool.and_eq_true] at h
    rw [SV.beqs_eq h.1, blksEq_eq h.2]
def numsEq : List Nat → List Nat → Bool
  | [], [] => true
  | a :: x, b :: y => Nat.beq a b && numsEq x y
  | _, _ => false
theorem numsEq_eq : ∀ {a b : List Nat}, numsEq a b = true → a = b
  | [], [], _ => rfl
  | [], _ :: _, h => by cases h
  | _ :: _, [], h => by cases h
  | a :: x, b :: y, h => by
    simp only [numsEq, Bool.and_eq_true] at h
    rw [Nat.eq_of_beq_eq_true h.1, numsEq_eq h.2]
def memoFind : List Memo → FuncId → ExtFn
  | [], _, _, _ => none
  | m :: r, f, a, S => match Nat.beq m.f f && (SV.beqs m.args a && (numsEq m.S.T S.T && blksEq m.S.H S.H)) with
    | true => some (m.out, m.S')
    | false => memoFind r f a S
/-- what the run of f0 is given -/
def memoExt (base : FuncId → Option ExtFn) (F : FuncId → Bool) (tab : List Memo) (f0 : FuncId) : FuncId → Option ExtFn := fun k => match Nat.beq k f0 with
  | true => none
  | false => match F k with
    | true => some (memoFind tab k)
    | false => base k
section
variable {c : Ctx} {pre : TypeId → Bool} {base : FuncId → Option ExtFn} {F : FuncId → Bool}
/-- an entry is the machine's -/
def MemoOk (c : Ctx) (m : Memo) : Prop := Steps1 m.S.H.length m.S m.S' ∧
  ∀ (B : Bd) (w0 : World) (G : Gh) (w : World) (vs : Array Value), Inv c B w0 G m.S w → RArgs G m.S.T m.args vs → CallTo c.P m.f vs w fun en w' => ∃ G', Inv c B w0 G' m.S' w' ∧ Grows G m.S.T G' m.S'.T ∧ OutR G' m.S'.T m.out en
theorem memoFind_sound {tab : List Memo} (h : ∀ m ∈ tab, MemoOk c m) (f : FuncId) : ExtSound c f (memoFind tab f) := by
  induction tab with
  | nil => intro args S out S' hh; cases hh
  | cons m r ih =>
    intro args S out S' hh
    unfold memoFind at hh
    split at hh
    · rename_i e
      simp only [Bool.and_eq_true] at e
      obtain ⟨e1, e2, e3, e4⟩ := e
      cases hh
      have h1 := Nat.eq_of_beq_eq_true e1
      have h2 := SV.beqs_eq e2
      have h3 := numsEq_eq e3
      have h4 := blksEq_eq e4
      obtain ⟨H, T⟩ := S
      have hS : m.S = ⟨H, T⟩ := by
        have q3 : m.S.T = T := h3
        have q4 : m.S.H = H := h4
        rw [← q3, ← q4]
      subst h1; subst h2
      rw [← hS]
      exact h m (List.mem_cons_self ..)
    · exact ih (fun m hm => h m (List.mem_cons_of_mem _ hm)) args S out S' hh
theorem memoExt_sound (hb : ∀ f g, base f = some g → ExtSound c f g) {tab : List Memo} (h : ∀ m ∈ tab, MemoOk c m) (f0 : FuncId) : ∀ f g, memoExt base F tab f0 f = some g → ExtSound c f g := by
  intro f g hg
  unfold memoExt at hg
  split at hg
  · cases hg
  · split at hg
    · cases hg; exact memoFind_sound h f
    · exact hb f g hg
theorem memo_calls (hm : c.P.follows .mixedOrders = true) (hname : ∀ (f : FuncId) (fn : Func), c.P.funcs[f]? = some fn → (fn.name == "runtime.NumGoroutine") = false)
    (hb : ∀ f g, base f = some g → ExtSound c f g) {tab : List Memo} (h : ∀ m ∈ tab, MemoOk c m) (f0 : FuncId) (n : Nat) : CallSound c (Ctx.call c pre (memoExt base F tab f0) n) :=
  run_sound hm hname (memoExt_sound hb h f0) n
/-- the next entry -/
theorem memo_cons (hm : c.P.follows .mixedOrders = true) (hname : ∀ (f : FuncId) (fn : Func), c.P.funcs[f]? = some fn → (fn.name == "runtime.NumGoroutine") = false)
    (hb : ∀ f g, base f = some g → ExtSound c f g) {tab : List Memo} (h : ∀ m ∈ tab, MemoOk c m) {m : Memo} {n : Nat} (hr : Ctx.call c pre (memoExt base F tab m.f) n m.f m.args m.S = some (m.out, m.S')) : ∀ x ∈ m :: tab, MemoOk c x := by
  intro x hx
  rcases List.mem_cons.1 hx with rfl | hx
  · have hs := memoExt_sound (F := F) hb h x.f
    exact ⟨call_steps (fun f g hg args S out S' q => (hs f g hg args S out S' q).1) n _ _ _ _ _ hr, memo_calls hm hname hb h x.f n _ _ _ _ _ hr⟩
  · exact h x hx
end
end Go.Ab
end
section
set_option maxRecDepth 100000
open Go Go.Ab
namespace Go.Proofs.YtdiphholophdcabGreatDoor.T
abbrev v0 : AV := (.agg [(.int .i64 0), (.str []), (.int .i64 7)])
abbrev v1 : AV := (.agg [(.int .i64 0), (.str []), (.int .i64 15)])
abbrev v2 : AV := (.agg [(.int .i64 9), (.str [61]), (.int .i64 1)])
abbrev v3 : AV := (.agg [(.int .i64 9), (.str [43]), (.int .i64 5)])
abbrev v4 : AV := (.agg [(.int .i64 2), (.str [49]), (.int .i64 6)])
abbrev v5 : AV := (.agg [(.int .i64 9), (.str [61]), (.int .i64 2)])
abbrev v6 : AV := (.agg [(.int .i64 9), (.str [40]), (.int .i64 4)])
abbrev v7 : AV := (.agg [(.int .i64 9), (.str [40]), (.int .i64 7)])
abbrev v8 : AV := (.agg [(.int .i64 5), (.str [120]), (.int .i64 0)])
abbrev v9 : AV := (.agg [(.int .i64 5), (.str [121]), (.int .i64 2)])
abbrev v10 : AV := (.agg [(.int .i64 5), (.str [122]), (.int .i64 4)])
abbrev v11 : AV := (.agg [(.int .i64 5), (.str [121]), (.int .i64 5)])
abbrev v12 : AV := (.agg [(.int .i64 5), (.str [122]), (.int .i64 8)])
abbrev v13 : AV := (.agg [(.int .i64 9), (.str [43]), (.int .i64 10)])
abbrev v14 : AV := (.agg [(.int .i64 2), (.str [49]), (.int .i64 12)])
abbrev v15 : AV := (.agg [(.int .i64 9), (.str [41]), (.int .i64 13)])
abbrev v16 : AV := (.agg [(.int .i64 9), (.str [41]), (.int .i64 14)])
abbrev v17 : AV := (.sl [v8])
abbrev v18 : AV := (.str [120, 32, 61, 32, 40, 121, 32, 40, 122, 32, 43, 32, 49, 41, 41])
abbrev v19 : AV := (.agg [(.int .i64 3), (.str [120]), (.int .i64 0), (.int .i64 0), (.sl []), (.sl [])])
abbrev v20 : AV := (.agg [(.int .i64 3), (.str [121]), (.int .i64 0), (.int .i64 2), (.sl []), (.sl [])])
abbrev v21 : AV := (.agg [(.int .i64 3), (.str [122]), (.int .i64 0), (.int .i64 4), (.sl []), (.sl [])])
abbrev v22 : AV := (.agg [(.int .i64 3), (.str [121]), (.int .i64 0), (.int .i64 5), (.sl []), (.sl [])])
abbrev v23 : AV := (.agg [(.int .i64 3), (.str [122]), (.int .i64 0), (.int .i64 8), (.sl []), (.sl [])])
abbrev v24 : AV := (.agg [(.int .i64 3), (.str [121]), (.int .i64 0), (.int .i64 0), (.sl []), (.sl [])])
abbrev v25 : AV := (.agg [(.int .i64 3), (.str [122]), (.int .i64 0), (.int .i64 0), (.sl []), (.sl [])])
abbrev v26 : AV := (.agg [(.int .i64 0), (.str []), (.int .i64 1000000), (.int .i64 6), (.sl []), (.sl [])])
abbrev v27 : AV := (.agg [(.int .i64 0), (.str []), (.int .i64 1000000), (.int .i64 0), (.sl []), (.sl [])])
abbrev v28 : AV := (.agg [(.int .i64 0), (.str []), (.int .i64 1000000), (.int .i64 12), (.sl []), (.sl [])])
abbrev v29 : AV := (.sl [v8, v5])
abbrev v30 : AV := (.sl [v21, v26])
abbrev v31 : AV := (.sl [v25, v27])
abbrev v32 : AV := (.sl [v23, v28])
abbrev v33 : AV := (.sl [v8, v5, v6, v11])
abbrev v34 : AV := (.agg [(.int .i64 14), (.str [43]), (.int .i64 0), (.int .i64 4), v30, (.sl [])])
abbrev v35 : AV := (.agg [(.int .i64 14), (.str [43]), (.int .i64 0), (.int .i64 0), v31, (.sl [])])
abbrev v36 : AV := (.agg [(.int .i64 14), (.str [43]), (.int .i64 0), (.int .i64 8), v32, (.sl [])])
abbrev v37 : AV := (.agg [(.int .i64 14), (.str [43]), (.int .i64 0), (.int .i64 7), v32, (.sl [])])
abbrev v38 : AV := (.sl [v8, v5, v6, v11, v7, v12])
abbrev v39 : AV := (.sl [v20, v34])
abbrev v40 : AV := (.sl [v24, v35])
abbrev v41 : AV := (.sl [v22, v37])
abbrev v42 : AV := (.sl [v8, v2, v9, v10, v3, v4, v0])
abbrev v43 : AV := (.sl [v8, v5, v6, v11, v7, v12, v13])
abbrev v44 : AV := (.agg [(.int .i64 13), (.str []), (.int .i64 0), (.int .i64 2), v39, (.sl [])])
abbrev v45 : AV := (.agg [(.int .i64 13), (.str []), (.int .i64 0), (.int .i64 0), v40, (.sl [])])
abbrev v46 : AV := (.agg [(.int .i64 13), (.str []), (.int .i64 0), (.int .i64 5), v41, (.sl [])])
abbrev v47 : AV := (.agg [(.int .i64 13), (.str []), (.int .i64 0), (.int .i64 4), v41, (.sl [])])
abbrev v48 : AV := (.sl [v19, v44])
abbrev v49 : AV := (.sl [v19, v45])
abbrev v50 : AV := (.sl [v19, v47])
abbrev v51 : AV := (.sl [v8, v5, v6, v11, v7, v12, v13, v14, v15, v16, v1])
abbrev v52 : AV := (.agg [(.int .i64 6), (.str [61]), (.int .i64 0), (.int .i64 0), v48, (.sl [])])
abbrev v53 : AV := (.agg [(.int .i64 6), (.str [61]), (.int .i64 0), (.int .i64 0), v49, (.sl [])])
abbrev v54 : AV := (.agg [(.int .i64 6), (.str [61]), (.int .i64 0), (.int .i64 0), v50, (.sl [])])
abbrev b0 : Blk := [((.int .i64 0), .no), ((.str []), .no), ((.int .i64 0), .no), ((.int .i64 0), .no), ((.sl []), .full), ((.sl []), .full)]
abbrev b1 : Blk := [(v42, (.tok 0)), ((.int .i64 0), .no), ((.int .i64 0), .no), ((.int .i64 0), .no), ((.bool false), .no)]
abbrev b2 : Blk := [(v42, (.tok 0)), ((.int .i64 1), .no), ((.int .i64 0), .no), ((.int .i64 0), .no), ((.bool false), .no)]
abbrev b3 : Blk := [(v42, (.tok 0)), ((.int .i64 2), .no), ((.int .i64 0), .no), ((.int .i64 0), .no), ((.bool false), .no)]
abbrev b4 : Blk := [((.int .i64 3), .no), ((.str [120]), .no), ((.int .i64 0), .no), ((.int .i64 0), .no), ((.sl []), .no), ((.sl []), .no)]
abbrev b5 : Blk := [(v42, (.tok 0)), ((.int .i64 3), .no), ((.int .i64 0), .no), ((.int .i64 0), .no), ((.bool false), .no)]
abbrev b6 : Blk := [((.int .i64 3), .no), ((.str [121]), .no), ((.int .i64 0), .no), ((.int .i64 2), .no), ((.sl []), .no), ((.sl []), .no)]
abbrev b7 : Blk := [(v42, (.tok 0)), ((.int .i64 4), .no), ((.int .i64 0), .no), ((.int .i64 0), .no), ((.bool false), .no)]
abbrev b8 : Blk := [(v42, (.tok 0)), ((.int .i64 5), .no), ((.int .i64 0), .no), ((.int .i64 0), .no), ((.bool false), .no)]
abbrev b9 : Blk := [((.int .i64 3), .no), ((.str [122]), .no), ((.int .i64 0), .no), ((.int .i64 4), .no), ((.sl []), .no), ((.sl []), .no)]
abbrev b10 : Blk := [(v42, (.tok 0)), ((.int .i64 6), .no), ((.int .i64 0), .no), ((.int .i64 0), .no), ((.bool false), .no)]
abbrev b11 : Blk := [((.int .i64 6), .no), ((.str [61]), .no), ((.int .i64 0), .no), ((.int .i64 0), .no), (v48, .no), ((.sl []), .no)]
abbrev b12 : Blk := [((.str []), .no)]
abbrev b13 : Blk := [((.int .i64 0), .no)]
abbrev b14 : Blk := [((.int .i64 2999), .no)]
abbrev b15 : Blk := [((.int .i64 1), .no)]
abbrev b16 : Blk := [((.ptr 5 0), .no)]
abbrev b17 : Blk := [((.int .i64 2998), .no)]
abbrev b18 : Blk := [((.int .i64 2997), .no)]
abbrev b19 : Blk := [((.int .i64 13), .no), ((.str []), .no), ((.int .i64 0), .no), ((.int .i64 2), .no), (v39, .no), ((.sl []), .no)]
abbrev b20 : Blk := [((.int .i64 2), .no)]
abbrev b21 : Blk := [((.int .i64 2996), .no)]
abbrev b22 : Blk := [((.int .i64 2995), .no)]
abbrev b23 : Blk := [((.int .i64 14), .no), ((.str [43]), .no), ((.int .i64 0), .no), ((.int .i64 4), .no), (v30, .no), ((.sl []), .no)]
abbrev b24 : Blk := [((.int .i64 3), .no)]
abbrev b25 : Blk := [((.int .i64 2994), .no)]
abbrev b26 : Blk := [((.int .i64 0), .no), ((.str []), .no), ((.int .i64 1000000), .no), ((.int .i64 6), .no), ((.sl []), .no), ((.sl []), .no)]
abbrev b27 : Blk := [((.int .i64 2993), .no)]
abbrev b28 : Blk := [((.int .i64 3000), .no)]
abbrev b29 : Blk := [((.int .u8 0), .no), ((.int .u8 0), .no), ((.int .u8 0), .no), ((.int .u8 0), .no), ((.int .u8 0), .no), ((.int .u8 0), .no), ((.int .u8 0), .no), ((.int .u8 0), .no), ((.int .u8 0), .no), ((.int .u8 0), .no), ((.int .u8 0), .no), ((.int .u8 0), .no), ((.int .u8 0), .no), ((.int .u8 0), .no), ((.int .u8 0), .no), ((.int .u8 0), .no), ((.int .u8 0), .no), ((.int .u8 0), .no), ((.int .u8 0), .no), ((.int .u8 0), .no), ((.int .u8 0), .no), ((.int .u8 0), .no), ((.int .u8 0), .no), ((.int .u8 0), .no)]
abbrev b30 : Blk := [((.int .i64 24), .no)]
abbrev b31 : Blk := [((.int .u8 0), .no), ((.int .u8 0), .no), ((.int .u8 0), .no), ((.int .u8 0), .no), ((.int .u8 0), .no), ((.int .u8 0), .no), ((.int .u8 0), .no), ((.int .u8 0), .no), ((.int .u8 0), .no), ((.int .u8 0), .no), ((.int .u8 0), .no), ((.int .u8 0), .no), ((.int .u8 0), .no), ((.int .u8 0), .no), ((.int .u8 0), .no), ((.int .u8 0), .no), ((.int .u8 0), .no), ((.int .u8 0), .no), ((.int .u8 0), .no), ((.int .u8 0), .no), ((.int .u8 0), .no), ((.int .u8 0), .no), ((.int .u8 0), .no), ((.int .u8 49), .no)]
abbrev b32 : Blk := [((.int .i64 23), .no)]
abbrev b33 : Blk := [((.sl []), .full)]
abbrev b34 : Blk := [(v18, .no), ((.int .i64 0), .no), ((.sl []), (.tok 0))]
abbrev b35 : Blk := [(v18, .no), ((.int .i64 1), .no), (v17, (.tok 0))]
abbrev b36 : Blk := [(v18, .no), ((.int .i64 2), .no), (v17, (.tok 0))]
abbrev b37 : Blk := [(v18, .no), ((.int .i64 3), .no), (v29, (.tok 0))]
abbrev b38 : Blk := [(v18, .no), ((.int .i64 4), .no), (v29, (.tok 0))]
abbrev b39 : Blk := [(v18, .no), ((.int .i64 5), .no), ((.sl [v8, v5, v6]), (.tok 0))]
abbrev b40 : Blk := [(v18, .no), ((.int .i64 6), .no), (v33, (.tok 0))]
abbrev b41 : Blk := [(v18, .no), ((.int .i64 7), .no), (v33, (.tok 0))]
abbrev b42 : Blk := [(v18, .no), ((.int .i64 8), .no), ((.sl [v8, v5, v6, v11, v7]), (.tok 0))]
abbrev b43 : Blk := [(v18, .no), ((.int .i64 9), .no), (v38, (.tok 0))]
abbrev b44 : Blk := [(v18, .no), ((.int .i64 10), .no), (v38, (.tok 0))]
abbrev b45 : Blk := [(v18, .no), ((.int .i64 11), .no), (v43, (.tok 0))]
abbrev b46 : Blk := [(v18, .no), ((.int .i64 12), .no), (v43, (.tok 0))]
abbrev b47 : Blk := [(v18, .no), ((.int .i64 13), .no), ((.sl [v8, v5, v6, v11, v7, v12, v13, v14]), (.tok 0))]
abbrev b48 : Blk := [(v18, .no), ((.int .i64 14), .no), ((.sl [v8, v5, v6, v11, v7, v12, v13, v14, v15]), (.tok 0))]
abbrev b49 : Blk := [(v18, .no), ((.int .i64 15), .no), ((.sl [v8, v5, v6, v11, v7, v12, v13, v14, v15, v16]), (.tok 0))]
abbrev b50 : Blk := [(v51, (.tok 0)), ((.int .i64 0), .no), ((.bool false), .no)]
abbrev b51 : Blk := [((.int .i64 5), .no), ((.str [120]), .no), ((.int .i64 0), .no)]
abbrev b52 : Blk := [(v51, (.tok 0)), ((.int .i64 1), .no), ((.bool false), .no)]
abbrev b53 : Blk := [(v51, (.tok 0)), ((.int .i64 2), .no), ((.bool false), .no)]
abbrev b54 : Blk := [((.int .i64 9), .no), ((.str [61]), .no), ((.int .i64 2), .no)]
abbrev b55 : Blk := [(v51, (.tok 0)), ((.int .i64 3), .no), ((.bool false), .no)]
abbrev b56 : Blk := [((.int .i64 9), .no), ((.str [40]), .no), ((.int .i64 4), .no)]
abbrev b57 : Blk := [((.int .i64 5), .no), ((.str [121]), .no), ((.int .i64 5), .no)]
abbrev b58 : Blk := [(v51, (.tok 0)), ((.int .i64 4), .no), ((.bool false), .no)]
abbrev b59 : Blk := [(v51, (.tok 0)), ((.int .i64 5), .no), ((.bool false), .no)]
abbrev b60 : Blk := [((.int .i64 3), .no), ((.str [121]), .no), ((.int .i64 0), .no), ((.int .i64 5), .no), ((.sl []), .no), ((.sl []), .no)]
abbrev b61 : Blk := [((.int .i64 9), .no), ((.str [40]), .no), ((.int .i64 7), .no)]
abbrev b62 : Blk := [((.int .i64 5), .no), ((.str [122]), .no), ((.int .i64 8), .no)]
abbrev b63 : Blk := [(v51, (.tok 0)), ((.int .i64 6), .no), ((.bool false), .no)]
abbrev b64 : Blk := [(v51, (.tok 0)), ((.int .i64 7), .no), ((.bool false), .no)]
abbrev b65 : Blk := [((.int .i64 3), .no), ((.str [122]), .no), ((.int .i64 0), .no), ((.int .i64 8), .no), ((.sl []), .no), ((.sl []), .no)]
abbrev b66 : Blk := [((.int .i64 2), .no), ((.str [49]), .no), ((.int .i64 12), .no)]
abbrev b67 : Blk := [((.int .u64 0), .no), ((.bool false), .no)]
abbrev b68 : Blk := [((.int .u64 1000000), .no), ((.bool false), .no)]
abbrev b69 : Blk := [(v51, (.tok 0)), ((.int .i64 8), .no), ((.bool false), .no)]
abbrev b70 : Blk := [(v51, (.tok 0)), ((.int .i64 9), .no), ((.bool false), .no)]
abbrev b71 : Blk := [(v51, (.tok 0)), ((.int .i64 10), .no), ((.bool false), .no)]
abbrev b72 : Blk := [((.int .i64 6), .no), ((.str [61]), .no), ((.int .i64 0), .no), ((.int .i64 0), .no), (v50, .no), ((.sl []), .no)]
abbrev b73 : Blk := [((.int .i64 13), .no), ((.str []), .no), ((.int .i64 0), .no), ((.int .i64 4), .no), (v41, .no), ((.sl []), .no)]
abbrev b74 : Blk := [((.int .i64 14), .no), ((.str [43]), .no), ((.int .i64 0), .no), ((.int .i64 7), .no), (v32, .no), ((.sl []), .no)]
abbrev b75 : Blk := [((.int .i64 0), .no), ((.str []), .no), ((.int .i64 1000000), .no), ((.int .i64 12), .no), ((.sl []), .no), ((.sl []), .no)]
abbrev b76 : Blk := [((.int .i64 6), .no), ((.str [61]), .no), ((.int .i64 0), .no), ((.int .i64 0), .no), ((.sl []), .full), ((.sl []), .no)]
abbrev b77 : Blk := [((.int .i64 6), .no), ((.str [61]), .no), ((.int .i64 0), .no), ((.int .i64 0), .no), ((.sl [v19]), (.tok 0)), ((.sl []), .no)]
abbrev b78 : Blk := [((.int .i64 13), .no), ((.str []), .no), ((.int .i64 0), .no), ((.int .i64 0), .no), ((.sl []), .full), ((.sl []), .no)]
abbrev b79 : Blk := [((.int .i64 13), .no), ((.str []), .no), ((.int .i64 0), .no), ((.int .i64 0), .no), ((.sl [v24]), (.tok 1)), ((.sl []), .no)]
abbrev b80 : Blk := [((.int .i64 14), .no), ((.str [43]), .no), ((.int .i64 0), .no), ((.int .i64 0), .no), ((.sl []), .full), ((.sl []), .no)]
abbrev b81 : Blk := [((.int .i64 14), .no), ((.str [43]), .no), ((.int .i64 0), .no), ((.int .i64 0), .no), ((.sl [v25]), (.tok 2)), ((.sl []), .no)]
abbrev b82 : Blk := [((.int .i64 6), .no), ((.str [61]), .no), ((.int .i64 0), .no), ((.int .i64 0), .no), (v49, .no), ((.sl []), .no)]
abbrev b83 : Blk := [((.int .i64 13), .no), ((.str []), .no), ((.int .i64 0), .no), ((.int .i64 0), .no), (v40, .no), ((.sl []), .no)]
abbrev b84 : Blk := [((.int .i64 3), .no), ((.str [121]), .no), ((.int .i64 0), .no), ((.int .i64 0), .no), ((.sl []), .no), ((.sl []), .no)]
abbrev b85 : Blk := [((.int .i64 14), .no), ((.str [43]), .no), ((.int .i64 0), .no), ((.int .i64 0), .no), (v31, .no), ((.sl []), .no)]
abbrev b86 : Blk := [((.int .i64 3), .no), ((.str [122]), .no), ((.int .i64 0), .no), ((.int .i64 0), .no), ((.sl []), .no), ((.sl []), .no)]
abbrev b87 : Blk := [((.int .i64 0), .no), ((.str []), .no), ((.int .i64 1000000), .no), ((.int .i64 0), .no), ((.sl []), .no), ((.sl []), .no)]
def inF : FuncId → Bool
  | 11 => true
  | 13 => true
  | 15 => true
  | 31 => true
  | 32 => true
  | 33 => true
  | 34 => true
  | 36 => true
  | 38 => true
  | 51 => true
  | 53 => true
  | 54 => true
  | 56 => true
  | 65 => true
  | 67 => true
  | 95 => true
  | 100 => true
  | 110 => true
  | 111 => true
  | 122 => true
  | 127 => true
  | 166 => true
  | 179 => true
  | 181 => true
  | 199 => true
  | 215 => true
  | 227 => true
  | 230 => true
  | 239 => true
  | 240 => true
  | 253 => true
  | 258 => true
  | 259 => true
  | 261 => true
  | 267 => true
  | 269 => true
  | 273 => true
  | 276 => true
  | 278 => true
  | 279 => true
  | 280 => true
  | 281 => true
  | 283 => true
  | 285 => true
  | 290 => true
  | 297 => true
  | 298 => true
  | 299 => true
  | 300 => true
  | _ => false
def tab0 : List Memo := []
theorem ok0 : ∀ m ∈ tab0, MemoOk cx m := fun m h => by cases h
def m0 : Memo := ⟨95, [((.str [120, 61, 121, 32, 122, 43, 49]), .no), ((.int .i64 0), .no), ((.sl []), .full)], ⟨[b0], []⟩, (.ret ((.tup [v8, (.int .i64 1), (.int .i64 0)]), (.agg [.no, .no, .no]))), ⟨[b0], []⟩⟩
theorem r0 : Ctx.call cx pre (memoExt extT inF tab0 m0.f) 400 m0.f m0.args m0.S = some (m0.out, m0.S') := by kernel_rfl
def tab1 : List Memo := m0 :: tab0
theorem ok1 : ∀ m ∈ tab1, MemoOk cx m := memo_cons hm hname extT_sound ok0 r0
def m1 : Memo := ⟨95, [((.str [120, 61, 121, 32, 122, 43, 49]), .no), ((.int .i64 1), .no), (v17, (.tok 0))], ⟨[b0], [1]⟩, (.ret ((.tup [v2, (.int .i64 2), (.int .i64 0)]), (.agg [.no, .no, .no]))), ⟨[b0], [1]⟩⟩
theorem r1 : Ctx.call cx pre (memoExt extT inF tab1 m1.f) 400 m1.f m1.args m1.S = some (m1.out, m1.S') := by kernel_rfl
def tab2 : List Memo := m1 :: tab1
theorem ok2 : ∀ m ∈ tab2, MemoOk cx m := memo_cons hm hname extT_sound ok1 r1
def m2 : Memo := ⟨95, [((.str [120, 61, 121, 32, 122, 43, 49]), .no), ((.int .i64 2), .no), ((.sl [v8, v2]), (.tok 0))], ⟨[b0], [2]⟩, (.ret ((.tup [v9, (.int .i64 3), (.int .i64 0)]), (.agg [.no, .no, .no]))), ⟨[b0], [2]⟩⟩
theorem r2 : Ctx.call cx pre (memoExt extT inF tab2 m2.f) 400 m2.f m2.args m2.S = some (m2.out, m2.S') := by kernel_rfl
def tab3 : List Memo := m2 :: tab2
theorem ok3 : ∀ m ∈ tab3, MemoOk cx m := memo_cons hm hname extT_sound ok2 r2
def m3 : Memo := ⟨95, [((.str [120, 61, 121, 32, 122, 43, 49]), .no), ((.int .i64 4), .no), ((.sl [v8, v2, v9]), (.tok 0))], ⟨[b0], [3]⟩, (.ret ((.tup [v10, (.int .i64 5), (.int .i64 0)]), (.agg [.no, .no, .no]))), ⟨[b0], [3]⟩⟩
theorem r3 : Ctx.call cx pre (memoExt extT inF tab3 m3.f) 400 m3.f m3.args m3.S = some (m3.out, m3.S') := by kernel_rfl
def tab4 : List Memo := m3 :: tab3
theorem ok4 : ∀ m ∈ tab4, MemoOk cx m := memo_cons hm hname extT_sound ok3 r3
def m4 : Memo := ⟨95, [((.str [120, 61, 121, 32, 122, 43, 49]), .no), ((.int .i64 5), .no), ((.sl [v8, v2, v9, v10]), (.tok 0))], ⟨[b0], [4]⟩, (.ret ((.tup [v3, (.int .i64 6), (.int .i64 0)]), (.agg [.no, .no, .no]))), ⟨[b0], [4]⟩⟩
theorem r4 : Ctx.call cx pre (memoExt extT inF tab4 m4.f) 400 m4.f m4.args m4.S = some (m4.out, m4.S') := by kernel_rfl
def tab5 : List Memo := m4 :: tab4
theorem ok5 : ∀ m ∈ tab5, MemoOk cx m := memo_cons hm hname extT_sound ok4 r4
def m5 : Memo := ⟨95, [((.str [120, 61, 121, 32, 122, 43, 49]), .no), ((.int .i64 6), .no), ((.sl [v8, v2, v9, v10, v3]), (.tok 0))], ⟨[b0], [5]⟩, (.ret ((.tup [v4, (.int .i64 7), (.int .i64 0)]), (.agg [.no, .no, .no]))), ⟨[b0], [5]⟩⟩
theorem r5 : Ctx.call cx pre (memoExt extT inF tab5 m5.f) 400 m5.f m5.args m5.S = some (m5.out, m5.S') := by kernel_rfl
def tab6 : List Memo := m5 :: tab5
theorem ok6 : ∀ m ∈ tab6, MemoOk cx m := memo_cons hm hname extT_sound ok5 r5
def m6 : Memo := ⟨51, [((.str [120, 61, 121, 32, 122, 43, 49]), .no)], ⟨[b0], []⟩, (.ret ((.tup [v42, (.int .i64 0), (.int .i64 0)]), (.agg [(.tok 0), .no, .no]))), ⟨[b0], [7]⟩⟩
theorem r6 : Ctx.call cx pre (memoExt extT inF tab6 m6.f) 400 m6.f m6.args m6.S = some (m6.out, m6.S') := by kernel_rfl
def tab7 : List Memo := m6 :: tab6
theorem ok7 : ∀ m ∈ tab7, MemoOk cx m := memo_cons hm hname extT_sound ok6 r6
def m7 : Memo := ⟨227, [((.ptr 1 0), .no)], ⟨[b0, b1, b0, b0, b0, b0, b0], [7]⟩, (.ret ((.int .i64 (-1)), .no)), ⟨[b0, b1, b0, b0, b0, b0, b0], [7]⟩⟩
theorem r7 : Ctx.call cx pre (memoExt extT inF tab7 m7.f) 400 m7.f m7.args m7.S = some (m7.out, m7.S') := by kernel_rfl
def tab8 : List Memo := m7 :: tab7
theorem ok8 : ∀ m ∈ tab8, MemoOk cx m := memo_cons hm hname extT_sound ok7 r7
def m8 : Memo := ⟨283, [((.ptr 1 0), .no), ((.int .i64 0), .no)], ⟨[b0, b1, b0, b0, b0, b0, b0, b0, b0, b0, b0, b0, b0], [7]⟩, (.ret (v19, .no)), ⟨[b0, b2, b0, b0, b0, b0, b0, b0, b0, b0, b0, b0, b0], [7]⟩⟩
theorem r8 : Ctx.call cx pre (memoExt extT inF tab8 m8.f) 400 m8.f m8.args m8.S = some (m8.out, m8.S') := by kernel_rfl
def tab9 : List Memo := m8 :: tab8
theorem ok9 : ∀ m ∈ tab9, MemoOk cx m := memo_cons hm hname extT_sound ok8 r8
def m9 : Memo := ⟨280, [((.ptr 1 0), .no), ((.int .i64 0), .no)], ⟨[b0, b1, b0, b0, b0, b0, b0, b0, b0, b0, b0, b0], [7]⟩, (.ret (v19, .no)), ⟨[b0, b2, b0, b0, b0, b0, b0, b0, b0, b0, b0, b0], [7]⟩⟩
theorem r9 : Ctx.call cx pre (memoExt extT inF tab9 m9.f) 400 m9.f m9.args m9.S = some (m9.out, m9.S') := by kernel_rfl
def tab10 : List Memo := m9 :: tab9
theorem ok10 : ∀ m ∈ tab10, MemoOk cx m := memo_cons hm hname extT_sound ok9 r9
def m10 : Memo := ⟨278, [((.ptr 1 0), .no), ((.int .i64 0), .no)], ⟨[b0, b1, b0, b0, b0, b0, b0, b0, b0, b0, b0], [7]⟩, (.ret (v19, .no)), ⟨[b0, b2, b0, b0, b0, b0, b0, b0, b0, b0, b0], [7]⟩⟩
theorem r10 : Ctx.call cx pre (memoExt extT inF tab10 m10.f) 400 m10.f m10.args m10.S = some (m10.out, m10.S') := by kernel_rfl
def tab11 : List Memo := m10 :: tab10
theorem ok11 : ∀ m ∈ tab11, MemoOk cx m := memo_cons hm hname extT_sound ok10 r10
def m11 : Memo := ⟨273, [((.ptr 1 0), .no), ((.int .i64 0), .no)], ⟨[b0, b1, b0, b0, b0, b0, b0, b0, b0, b0], [7]⟩, (.ret (v19, .no)), ⟨[b0, b2, b0, b0, b0, b0, b0, b0, b0, b0], [7]⟩⟩
theorem r11 : Ctx.call cx pre (memoExt extT inF tab11 m11.f) 400 m11.f m11.args m11.S = some (m11.out, m11.S') := by kernel_rfl
def tab12 : List Memo := m11 :: tab11
theorem ok12 : ∀ m ∈ tab12, MemoOk cx m := memo_cons hm hname extT_sound ok11 r11
def m12 : Memo := ⟨267, [((.ptr 1 0), .no), ((.int .i64 0), .no)], ⟨[b0, b1, b0, b0, b0, b0, b0, b0, b0], [7]⟩, (.ret (v19, .no)), ⟨[b0, b2, b0, b0, b0, b0, b0, b0, b0], [7]⟩⟩
theorem r12 : Ctx.call cx pre (memoExt extT inF tab12 m12.f) 400 m12.f m12.args m12.S = some (m12.out, m12.S') := by kernel_rfl
def tab13 : List Memo := m12 :: tab12
theorem ok13 : ∀ m ∈ tab13, MemoOk cx m := memo_cons hm hname extT_sound ok12 r12
def m13 : Memo := ⟨253, [((.ptr 1 0), .no), ((.int .i64 0), .no)], ⟨[b0, b1, b0, b0, b0, b0, b0, b0], [7]⟩, (.ret (v19, .no)), ⟨[b0, b2, b0, b0, b0, b0, b0, b0], [7]⟩⟩
theorem r13 : Ctx.call cx pre (memoExt extT inF tab13 m13.f) 400 m13.f m13.args m13.S = some (m13.out, m13.S') := by kernel_rfl
def tab14 : List Memo := m13 :: tab13
theorem ok14 : ∀ m ∈ tab14, MemoOk cx m := memo_cons hm hname extT_sound ok13 r13
def m14 : Memo := ⟨230, [((.ptr 1 0), .no), ((.int .i64 0), .no)], ⟨[b0, b1, b0, b0, b0, b0, b0], [7]⟩, (.ret (v19, .no)), ⟨[b0, b2, b0, b0, b0, b0, b0], [7]⟩⟩
theorem r14 : Ctx.call cx pre (memoExt extT inF tab14 m14.f) 400 m14.f m14.args m14.S = some (m14.out, m14.S') := by kernel_rfl
def tab15 : List Memo := m14 :: tab14
theorem ok15 : ∀ m ∈ tab15, MemoOk cx m := memo_cons hm hname extT_sound ok14 r14
def m15 : Memo := ⟨199, [((.ptr 1 0), .no), ((.int .i64 0), .no)], ⟨[b0, b1, b0, b0, b0], [7]⟩, (.ret (v19, .no)), ⟨[b0, b2, b0, b0, b0], [7]⟩⟩
theorem r15 : Ctx.call cx pre (memoExt extT inF tab15 m15.f) 400 m15.f m15.args m15.S = some (m15.out, m15.S') := by kernel_rfl
def tab16 : List Memo := m15 :: tab15
theorem ok16 : ∀ m ∈ tab16, MemoOk cx m := memo_cons hm hname extT_sound ok15 r15
def m16 : Memo := ⟨166, [((.ptr 1 0), .no), ((.int .i64 0), .no)], ⟨[b0, b1, b0, b0], [7]⟩, (.ret (v19, .no)), ⟨[b0, b2, b0, b0], [7]⟩⟩
theorem r16 : Ctx.call cx pre (memoExt extT inF tab16 m16.f) 400 m16.f m16.args m16.S = some (m16.out, m16.S') := by kernel_rfl
def tab17 : List Memo := m16 :: tab16
theorem ok17 : ∀ m ∈ tab17, MemoOk cx m := memo_cons hm hname extT_sound ok16 r16
def m17 : Memo := ⟨100, [((.ptr 1 0), .no), ((.int .i64 0), .no)], ⟨[b0, b1, b0], [7]⟩, (.ret (v19, .no)), ⟨[b0, b2, b0], [7]⟩⟩
theorem r17 : Ctx.call cx pre (memoExt extT inF tab17 m17.f) 400 m17.f m17.args m17.S = some (m17.out, m17.S') := by kernel_rfl
def tab18 : List Memo := m17 :: tab17
theorem ok18 : ∀ m ∈ tab18, MemoOk cx m := memo_cons hm hname extT_sound ok17 r17
def m18 : Memo := ⟨227, [((.ptr 1 0), .no)], ⟨[b0, b3, b0, b4, b0, b0, b0, b0, b0], [7]⟩, (.ret ((.int .i64 (-1)), .no)), ⟨[b0, b3, b0, b4, b0, b0, b0, b0, b0], [7]⟩⟩
theorem r18 : Ctx.call cx pre (memoExt extT inF tab18 m18.f) 400 m18.f m18.args m18.S = some (m18.out, m18.S') := by kernel_rfl
def tab19 : List Memo := m18 :: tab18
theorem ok19 : ∀ m ∈ tab19, MemoOk cx m := memo_cons hm hname extT_sound ok18 r18
def m19 : Memo := ⟨283, [((.ptr 1 0), .no), ((.int .i64 1), .no)], ⟨[b0, b3, b0, b4, b0, b0, b0, b0, b0, b0, b0, b0, b0, b0, b0], [7]⟩, (.ret (v20, .no)), ⟨[b0, b5, b0, b4, b0, b0, b0, b0, b0, b0, b0, b0, b0, b0, b0], [7]⟩⟩
theorem r19 : Ctx.call cx pre (memoExt extT inF tab19 m19.f) 400 m19.f m19.args m19.S = some (m19.out, m19.S') := by kernel_rfl
def tab20 : List Memo := m19 :: tab19
theorem ok20 : ∀ m ∈ tab20, MemoOk cx m := memo_cons hm hname extT_sound ok19 r19
def m20 : Memo := ⟨280, [((.ptr 1 0), .no), ((.int .i64 1), .no)], ⟨[b0, b3, b0, b4, b0, b0, b0, b0, b0, b0, b0, b0, b0, b0], [7]⟩, (.ret (v20, .no)), ⟨[b0, b5, b0, b4, b0, b0, b0, b0, b0, b0, b0, b0, b0, b0], [7]⟩⟩
theorem r20 : Ctx.call cx pre (memoExt extT inF tab20 m20.f) 400 m20.f m20.args m20.S = some (m20.out, m20.S') := by kernel_rfl
def tab21 : List Memo := m20 :: tab20
theorem ok21 : ∀ m ∈ tab21, MemoOk cx m := memo_cons hm hname extT_sound ok20 r20
def m21 : Memo := ⟨278, [((.ptr 1 0), .no), ((.int .i64 1), .no)], ⟨[b0, b3, b0, b4, b0, b0, b0, b0, b0, b0, b0, b0, b0], [7]⟩, (.ret (v20, .no)), ⟨[b0, b5, b0, b4, b0, b0, b0, b0, b0, b0, b0, b0, b0], [7]⟩⟩
theorem r21 : Ctx.call cx pre (memoExt extT inF tab21 m21.f) 400 m21.f m21.args m21.S = some (m21.out, m21.S') := by kernel_rfl
def tab22 : List Memo := m21 :: tab21
theorem ok22 : ∀ m ∈ tab22, MemoOk cx m := memo_cons hm hname extT_sound ok21 r21
def m22 : Memo := ⟨273, [((.ptr 1 0), .no), ((.int .i64 1), .no)], ⟨[b0, b3, b0, b4, b0, b0, b0, b0, b0, b0, b0, b0], [7]⟩, (.ret (v20, .no)), ⟨[b0, b5, b0, b4, b0, b0, b0, b0, b0, b0, b0, b0], [7]⟩⟩
theorem r22 : Ctx.call cx pre (memoExt extT inF tab22 m22.f) 400 m22.f m22.args m22.S = some (m22.out, m22.S') := by kernel_rfl
def tab23 : List Memo := m22 :: tab22
theorem ok23 : ∀ m ∈ tab23, MemoOk cx m := memo_cons hm hname extT_sound ok22 r22
def m23 : Memo := ⟨283, [((.ptr 1 0), .no), ((.int .i64 1), .no)], ⟨[b0, b5, b0, b4, b0, b0, b0, b0, b0, b0, b0, b0, b6, b0, b0, b0], [7]⟩, (.ret (v21, .no)), ⟨[b0, b7, b0, b4, b0, b0, b0, b0, b0, b0, b0, b0, b6, b0, b0, b0], [7]⟩⟩
theorem r23 : Ctx.call cx pre (memoExt extT inF tab23 m23.f) 400 m23.f m23.args m23.S = some (m23.out, m23.S') := by kernel_rfl
def tab24 : List Memo := m23 :: tab23
theorem ok24 : ∀ m ∈ tab24, MemoOk cx m := memo_cons hm hname extT_sound ok23 r23
def m24 : Memo := ⟨280, [((.ptr 1 0), .no), ((.int .i64 1), .no)], ⟨[b0, b5, b0, b4, b0, b0, b0, b0, b0, b0, b0, b0, b6, b0, b0], [7]⟩, (.ret (v21, .no)), ⟨[b0, b7, b0, b4, b0, b0, b0, b0, b0, b0, b0, b0, b6, b0, b0], [7]⟩⟩
theorem r24 : Ctx.call cx pre (memoExt extT inF tab24 m24.f) 400 m24.f m24.args m24.S = some (m24.out, m24.S') := by kernel_rfl
def tab25 : List Memo := m24 :: tab24
theorem ok25 : ∀ m ∈ tab25, MemoOk cx m := memo_cons hm hname extT_sound ok24 r24
def m25 : Memo := ⟨278, [((.ptr 1 0), .no), ((.int .i64 1), .no)], ⟨[b0, b5, b0, b4, b0, b0, b0, b0, b0, b0, b0, b0, b6, b0], [7]⟩, (.ret (v21, .no)), ⟨[b0, b7, b0, b4, b0, b0, b0, b0, b0, b0, b0, b0, b6, b0], [7]⟩⟩
theorem r25 : Ctx.call cx pre (memoExt extT inF tab25 m25.f) 400 m25.f m25.args m25.S = some (m25.out, m25.S') := by kernel_rfl
def tab26 : List Memo := m25 :: tab25
theorem ok26 : ∀ m ∈ tab26, MemoOk cx m := memo_cons hm hname extT_sound ok25 r25
def m26 : Memo := ⟨283, [((.ptr 1 0), .no), ((.int .i64 1), .no)], ⟨[b0, b8, b0, b4, b0, b0, b0, b0, b0, b0, b0, b0, b6, b0, b9, b0, b0], [7]⟩, (.ret (v26, .no)), ⟨[b0, b10, b0, b4, b0, b0, b0, b0, b0, b0, b0, b0, b6, b0, b9, b0, b0], [7]⟩⟩
theorem r26 : Ctx.call cx pre (memoExt extT inF tab26 m26.f) 400 m26.f m26.args m26.S = some (m26.out, m26.S') := by kernel_rfl
def tab27 : List Memo := m26 :: tab26
theorem ok27 : ∀ m ∈ tab27, MemoOk cx m := memo_cons hm hname extT_sound ok26 r26
def m27 : Memo := ⟨280, [((.ptr 1 0), .no), ((.int .i64 1), .no)], ⟨[b0, b8, b0, b4, b0, b0, b0, b0, b0, b0, b0, b0, b6, b0, b9, b0], [7]⟩, (.ret (v26, .no)), ⟨[b0, b10, b0, b4, b0, b0, b0, b0, b0, b0, b0, b0, b6, b0, b9, b0], [7]⟩⟩
theorem r27 : Ctx.call cx pre (memoExt extT inF tab27 m27.f) 400 m27.f m27.args m27.S = some (m27.out, m27.S') := by kernel_rfl
def tab28 : List Memo := m27 :: tab27
theorem ok28 : ∀ m ∈ tab28, MemoOk cx m := memo_cons hm hname extT_sound ok27 r27
def m28 : Memo := ⟨278, [((.ptr 1 0), .no), ((.int .i64 1), .no)], ⟨[b0, b8, b0, b4, b0, b0, b0, b0, b0, b0, b0, b0, b6, b0, b9], [7]⟩, (.ret (v26, .no)), ⟨[b0, b10, b0, b4, b0, b0, b0, b0, b0, b0, b0, b0, b6, b0, b9], [7]⟩⟩
theorem r28 : Ctx.call cx pre (memoExt extT inF tab28 m28.f) 400 m28.f m28.args m28.S = some (m28.out, m28.S') := by kernel_rfl
def tab29 : List Memo := m28 :: tab28
theorem ok29 : ∀ m ∈ tab29, MemoOk cx m := memo_cons hm hname extT_sound ok28 r28
def m29 : Memo := ⟨273, [((.ptr 1 0), .no), ((.int .i64 1), .no)], ⟨[b0, b5, b0, b4, b0, b0, b0, b0, b0, b0, b0, b0, b6], [7]⟩, (.ret (v34, .no)), ⟨[b0, b10, b0, b4, b0, b0, b0, b0, b0, b0, b0, b0, b6], [7]⟩⟩
theorem r29 : Ctx.call cx pre (memoExt extT inF tab29 m29.f) 400 m29.f m29.args m29.S = some (m29.out, m29.S') := by kernel_rfl
def tab30 : List Memo := m29 :: tab29
theorem ok30 : ∀ m ∈ tab30, MemoOk cx m := memo_cons hm hname extT_sound ok29 r29
def m30 : Memo := ⟨267, [((.ptr 1 0), .no), ((.int .i64 1), .no)], ⟨[b0, b3, b0, b4, b0, b0, b0, b0, b0, b0, b0], [7]⟩, (.ret (v44, .no)), ⟨[b0, b10, b0, b4, b0, b0, b0, b0, b0, b0, b0], [7]⟩⟩
theorem r30 : Ctx.call cx pre (memoExt extT inF tab30 m30.f) 400 m30.f m30.args m30.S = some (m30.out, m30.S') := by kernel_rfl
def tab31 : List Memo := m30 :: tab30
theorem ok31 : ∀ m ∈ tab31, MemoOk cx m := memo_cons hm hname extT_sound ok30 r30
def m31 : Memo := ⟨253, [((.ptr 1 0), .no), ((.int .i64 1), .no)], ⟨[b0, b3, b0, b4, b0, b0, b0, b0, b0, b0], [7]⟩, (.ret (v44, .no)), ⟨[b0, b10, b0, b4, b0, b0, b0, b0, b0, b0], [7]⟩⟩
theorem r31 : Ctx.call cx pre (memoExt extT inF tab31 m31.f) 400 m31.f m31.args m31.S = some (m31.out, m31.S') := by kernel_rfl
def tab32 : List Memo := m31 :: tab31
theorem ok32 : ∀ m ∈ tab32, MemoOk cx m := memo_cons hm hname extT_sound ok31 r31
def m32 : Memo := ⟨230, [((.ptr 1 0), .no), ((.int .i64 1), .no)], ⟨[b0, b3, b0, b4, b0, b0, b0, b0, b0], [7]⟩, (.ret (v44, .no)), ⟨[b0, b10, b0, b4, b0, b0, b0, b0, b0], [7]⟩⟩
theorem r32 : Ctx.call cx pre (memoExt extT inF tab32 m32.f) 400 m32.f m32.args m32.S = some (m32.out, m32.S') := by kernel_rfl
def tab33 : List Memo := m32 :: tab32
theorem ok33 : ∀ m ∈ tab33, MemoOk cx m := memo_cons hm hname extT_sound ok32 r32
def m33 : Memo := ⟨199, [((.ptr 1 0), .no), ((.int .i64 1), .no)], ⟨[b0, b3, b0, b4, b0, b0, b0], [7]⟩, (.ret (v44, .no)), ⟨[b0, b10, b0, b4, b0, b0, b0], [7]⟩⟩
theorem r33 : Ctx.call cx pre (memoExt extT inF tab33 m33.f) 400 m33.f m33.args m33.S = some (m33.out, m33.S') := by kernel_rfl
def tab34 : List Memo := m33 :: tab33
theorem ok34 : ∀ m ∈ tab34, MemoOk cx m := memo_cons hm hname extT_sound ok33 r33
def m34 : Memo := ⟨166, [((.ptr 1 0), .no), ((.int .i64 1), .no)], ⟨[b0, b3, b0, b4, b0, b0], [7]⟩, (.ret (v44, .no)), ⟨[b0, b10, b0, b4, b0, b0], [7]⟩⟩
theorem r34 : Ctx.call cx pre (memoExt extT inF tab34 m34.f) 400 m34.f m34.args m34.S = some (m34.out, m34.S') := by kernel_rfl
def tab35 : List Memo := m34 :: tab34
theorem ok35 : ∀ m ∈ tab35, MemoOk cx m := memo_cons hm hname extT_sound ok34 r34
def m35 : Memo := ⟨100, [((.ptr 1 0), .no), ((.int .i64 1), .no)], ⟨[b0, b3, b0, b4, b0], [7]⟩, (.ret (v44, .no)), ⟨[b0, b10, b0, b4, b0], [7]⟩⟩
theorem r35 : Ctx.call cx pre (memoExt extT inF tab35 m35.f) 400 m35.f m35.args m35.S = some (m35.out, m35.S') := by kernel_rfl
def tab36 : List Memo := m35 :: tab35
theorem ok36 : ∀ m ∈ tab36, MemoOk cx m := memo_cons hm hname extT_sound ok35 r35
def m36 : Memo := ⟨53, [((.ptr 1 0), .no), ((.int .i64 1), .no)], ⟨[b0, b3, b0, b4], [7]⟩, (.ret (v44, .no)), ⟨[b0, b10, b0, b4], [7]⟩⟩
theorem r36 : Ctx.call cx pre (memoExt extT inF tab36 m36.f) 400 m36.f m36.args m36.S = some (m36.out, m36.S') := by kernel_rfl
def tab37 : List Memo := m36 :: tab36
theorem ok37 : ∀ m ∈ tab37, MemoOk cx m := memo_cons hm hname extT_sound ok36 r36
def m37 : Memo := ⟨53, [((.ptr 1 0), .no), ((.int .i64 0), .no)], ⟨[b0, b1], [7]⟩, (.ret (v52, .no)), ⟨[b0, b10], [7]⟩⟩
theorem r37 : Ctx.call cx pre (memoExt extT inF tab37 m37.f) 400 m37.f m37.args m37.S = some (m37.out, m37.S') := by kernel_rfl
def tab38 : List Memo := m37 :: tab37
theorem ok38 : ∀ m ∈ tab38, MemoOk cx m := memo_cons hm hname extT_sound ok37 r37
def m38 : Memo := ⟨31, [((.str [120, 61, 121, 32, 122, 43, 49]), .no)], ⟨[], []⟩, (.ret ((.tup [v52, (.int .i64 0), (.int .i64 0)]), (.agg [.no, .no, .no]))), ⟨[], []⟩⟩
theorem r38 : Ctx.call cx pre (memoExt extT inF tab38 m38.f) 400 m38.f m38.args m38.S = some (m38.out, m38.S') := by kernel_rfl
def tab39 : List Memo := m38 :: tab38
theorem ok39 : ∀ m ∈ tab39, MemoOk cx m := memo_cons hm hname extT_sound ok38 r38
def m39 : Memo := ⟨54, [(v19, (.agg [.no, .no, .no, .no, .no, .no])), ((.int .i64 2), .no), ((.ptr 5 0), .no)], ⟨[b11, b11, b11, b12, b13, b14, b11, b15, b16, b4], []⟩, (.ret ((.bool true), .no)), ⟨[b11, b11, b11, b12, b13, b17, b11, b15, b16, b4], []⟩⟩
theorem r39 : Ctx.call cx pre (memoExt extT inF tab39 m39.f) 400 m39.f m39.args m39.S = some (m39.out, m39.S') := by kernel_rfl
def tab40 : List Memo := m39 :: tab39
theorem ok40 : ∀ m ∈ tab40, MemoOk cx m := memo_cons hm hname extT_sound ok39 r39
def m40 : Memo := ⟨54, [(v20, (.agg [.no, .no, .no, .no, .no, .no])), ((.int .i64 3), .no), ((.ptr 5 0), .no)], ⟨[b11, b11, b11, b12, b13, b18, b11, b15, b16, b19, b19, b20, b16, b6], []⟩, (.ret ((.bool true), .no)), ⟨[b11, b11, b11, b12, b13, b21, b11, b15, b16, b19, b19, b20, b16, b6], []⟩⟩
theorem r40 : Ctx.call cx pre (memoExt extT inF tab40 m40.f) 400 m40.f m40.args m40.S = some (m40.out, m40.S') := by kernel_rfl
def tab41 : List Memo := m40 :: tab40
theorem ok41 : ∀ m ∈ tab41, MemoOk cx m := memo_cons hm hname extT_sound ok40 r40
def m41 : Memo := ⟨54, [(v21, (.agg [.no, .no, .no, .no, .no, .no])), ((.int .i64 4), .no), ((.ptr 5 0), .no)], ⟨[b11, b11, b11, b12, b13, b22, b11, b15, b16, b19, b19, b20, b16, b23, b23, b24, b16, b9], []⟩, (.ret ((.bool true), .no)), ⟨[b11, b11, b11, b12, b13, b25, b11, b15, b16, b19, b19, b20, b16, b23, b23, b24, b16, b9], []⟩⟩
theorem r41 : Ctx.call cx pre (memoExt extT inF tab41 m41.f) 400 m41.f m41.args m41.S = some (m41.out, m41.S') := by kernel_rfl
def tab42 : List Memo := m41 :: tab41
theorem ok42 : ∀ m ∈ tab42, MemoOk cx m := memo_cons hm hname extT_sound ok41 r41
def m42 : Memo := ⟨54, [(v26, (.agg [.no, .no, .no, .no, .no, .no])), ((.int .i64 4), .no), ((.ptr 5 0), .no)], ⟨[b11, b11, b11, b12, b13, b25, b11, b15, b16, b19, b19, b20, b16, b23, b23, b24, b16, b26], []⟩, (.ret ((.bool true), .no)), ⟨[b11, b11, b11, b12, b13, b27, b11, b15, b16, b19, b19, b20, b16, b23, b23, b24, b16, b26], []⟩⟩
theorem r42 : Ctx.call cx pre (memoExt extT inF tab42 m42.f) 400 m42.f m42.args m42.S = some (m42.out, m42.S') := by kernel_rfl
def tab43 : List Memo := m42 :: tab42
theorem ok43 : ∀ m ∈ tab43, MemoOk cx m := memo_cons hm hname extT_sound ok42 r42
def m43 : Memo := ⟨54, [(v34, (.agg [.no, .no, .no, .no, .no, .no])), ((.int .i64 3), .no), ((.ptr 5 0), .no)], ⟨[b11, b11, b11, b12, b13, b21, b11, b15, b16, b19, b19, b20, b16, b23], []⟩, (.ret ((.bool true), .no)), ⟨[b11, b11, b11, b12, b13, b27, b11, b15, b16, b19, b19, b20, b16, b23], []⟩⟩
theorem r43 : Ctx.call cx pre (memoExt extT inF tab43 m43.f) 400 m43.f m43.args m43.S = some (m43.out, m43.S') := by kernel_rfl
def tab44 : List Memo := m43 :: tab43
theorem ok44 : ∀ m ∈ tab44, MemoOk cx m := memo_cons hm hname extT_sound ok43 r43
def m44 : Memo := ⟨54, [(v44, (.agg [.no, .no, .no, .no, .no, .no])), ((.int .i64 2), .no), ((.ptr 5 0), .no)], ⟨[b11, b11, b11, b12, b13, b17, b11, b15, b16, b19], []⟩, (.ret ((.bool true), .no)), ⟨[b11, b11, b11, b12, b13, b27, b11, b15, b16, b19], []⟩⟩
theorem r44 : Ctx.call cx pre (memoExt extT inF tab44 m44.f) 400 m44.f m44.args m44.S = some (m44.out, m44.S') := by kernel_rfl
def tab45 : List Memo := m44 :: tab44
theorem ok45 : ∀ m ∈ tab45, MemoOk cx m := memo_cons hm hname extT_sound ok44 r44
def m45 : Memo := ⟨54, [(v52, (.agg [.no, .no, .no, .no, .no, .no])), ((.int .i64 1), .no), ((.ptr 5 0), .no)], ⟨[b11, b11, b11, b12, b13, b28], []⟩, (.ret ((.bool true), .no)), ⟨[b11, b11, b11, b12, b13, b27], []⟩⟩
theorem r45 : Ctx.call cx pre (memoExt extT inF tab45 m45.f) 400 m45.f m45.args m45.S = some (m45.out, m45.S') := by kernel_rfl
def tab46 : List Memo := m45 :: tab45
theorem ok46 : ∀ m ∈ tab46, MemoOk cx m := memo_cons hm hname extT_sound ok45 r45
def m46 : Memo := ⟨33, [(v19, .no)], ⟨[b11, b11, b11, b12, b13, b27, b11], []⟩, (.ret ((.str [120]), .no)), ⟨[b11, b11, b11, b12, b13, b27, b11], []⟩⟩
theorem r46 : Ctx.call cx pre (memoExt extT inF tab46 m46.f) 400 m46.f m46.args m46.S = some (m46.out, m46.S') := by kernel_rfl
def tab47 : List Memo := m46 :: tab46
theorem ok47 : ∀ m ∈ tab47, MemoOk cx m := memo_cons hm hname extT_sound ok46 r46
def m47 : Memo := ⟨33, [(v20, (.agg [.no, .no, .no, .no, .no, .no]))], ⟨[b11, b11, b11, b12, b13, b27, b11, b19, b19, b19, b6], []⟩, (.ret ((.str [121]), .no)), ⟨[b11, b11, b11, b12, b13, b27, b11, b19, b19, b19, b6], []⟩⟩
theorem r47 : Ctx.call cx pre (memoExt extT inF tab47 m47.f) 400 m47.f m47.args m47.S = some (m47.out, m47.S') := by kernel_rfl
def tab48 : List Memo := m47 :: tab47
theorem ok48 : ∀ m ∈ tab48, MemoOk cx m := memo_cons hm hname extT_sound ok47 r47
def m48 : Memo := ⟨33, [(v21, (.agg [.no, .no, .no, .no, .no, .no]))], ⟨[b11, b11, b11, b12, b13, b27, b11, b19, b19, b19, b23, b23, b23, b9], []⟩, (.ret ((.str [122]), .no)), ⟨[b11, b11, b11, b12, b13, b27, b11, b19, b19, b19, b23, b23, b23, b9], []⟩⟩
theorem r48 : Ctx.call cx pre (memoExt extT inF tab48 m48.f) 400 m48.f m48.args m48.S = some (m48.out, m48.S') := by kernel_rfl
def tab49 : List Memo := m48 :: tab48
theorem ok49 : ∀ m ∈ tab49, MemoOk cx m := memo_cons hm hname extT_sound ok48 r48
def m49 : Memo := ⟨110, [((.int .i64 1000000), .no)], ⟨[b11, b11, b11, b12, b13, b27, b11, b19, b19, b19, b23, b23, b23, b26, b26, b29], []⟩, (.ret ((.int .u64 1000000), .no)), ⟨[b11, b11, b11, b12, b13, b27, b11, b19, b19, b19, b23, b23, b23, b26, b26, b29], []⟩⟩
theorem r49 : Ctx.call cx pre (memoExt extT inF tab49 m49.f) 400 m49.f m49.args m49.S = some (m49.out, m49.S') := by kernel_rfl
def tab50 : List Memo := m49 :: tab49
theorem ok50 : ∀ m ∈ tab50, MemoOk cx m := memo_cons hm hname extT_sound ok49 r49
def m50 : Memo := ⟨111, [((.int .u8 49), .no), ((.ptr 16 0), .no), ((.ptr 15 0), .no)], ⟨[b11, b11, b11, b12, b13, b27, b11, b19, b19, b19, b23, b23, b23, b26, b26, b29, b30], []⟩, (.ret ((.tup []), (.agg []))), ⟨[b11, b11, b11, b12, b13, b27, b11, b19, b19, b19, b23, b23, b23, b26, b26, b31, b32], []⟩⟩
theorem r50 : Ctx.call cx pre (memoExt extT inF tab50 m50.f) 400 m50.f m50.args m50.S = some (m50.out, m50.S') := by kernel_rfl
def tab51 : List Memo := m50 :: tab50
theorem ok51 : ∀ m ∈ tab51, MemoOk cx m := memo_cons hm hname extT_sound ok50 r50
def m51 : Memo := ⟨56, [((.int .i64 1000000), .no)], ⟨[b11, b11, b11, b12, b13, b27, b11, b19, b19, b19, b23, b23, b23, b26, b26], []⟩, (.ret ((.str [49]), .no)), ⟨[b11, b11, b11, b12, b13, b27, b11, b19, b19, b19, b23, b23, b23, b26, b26], []⟩⟩
theorem r51 : Ctx.call cx pre (memoExt extT inF tab51 m51.f) 400 m51.f m51.args m51.S = some (m51.out, m51.S') := by kernel_rfl
def tab52 : List Memo := m51 :: tab51
theorem ok52 : ∀ m ∈ tab52, MemoOk cx m := memo_cons hm hname extT_sound ok51 r51
def m52 : Memo := ⟨33, [(v26, (.agg [.no, .no, .no, .no, .no, .no]))], ⟨[b11, b11, b11, b12, b13, b27, b11, b19, b19, b19, b23, b23, b23, b26], []⟩, (.ret ((.str [49]), .no)), ⟨[b11, b11, b11, b12, b13, b27, b11, b19, b19, b19, b23, b23, b23, b26], []⟩⟩
theorem r52 : Ctx.call cx pre (memoExt extT inF tab52 m52.f) 400 m52.f m52.args m52.S = some (m52.out, m52.S') := by kernel_rfl
def tab53 : List Memo := m52 :: tab52
theorem ok53 : ∀ m ∈ tab53, MemoOk cx m := memo_cons hm hname extT_sound ok52 r52
def m53 : Memo := ⟨33, [(v34, (.agg [.no, .no, .no, .no, .no, .no]))], ⟨[b11, b11, b11, b12, b13, b27, b11, b19, b19, b19, b23], []⟩, (.ret ((.str [122, 32, 43, 32, 49]), .no)), ⟨[b11, b11, b11, b12, b13, b27, b11, b19, b19, b19, b23], []⟩⟩
theorem r53 : Ctx.call cx pre (memoExt extT inF tab53 m53.f) 400 m53.f m53.args m53.S = some (m53.out, m53.S') := by kernel_rfl
def tab54 : List Memo := m53 :: tab53
theorem ok54 : ∀ m ∈ tab54, MemoOk cx m := memo_cons hm hname extT_sound ok53 r53
def m54 : Memo := ⟨33, [(v44, (.agg [.no, .no, .no, .no, .no, .no]))], ⟨[b11, b11, b11, b12, b13, b27, b11, b19], []⟩, (.ret ((.str [121, 32, 40, 122, 32, 43, 32, 49, 41]), .no)), ⟨[b11, b11, b11, b12, b13, b27, b11, b19], []⟩⟩
theorem r54 : Ctx.call cx pre (memoExt extT inF tab54 m54.f) 400 m54.f m54.args m54.S = some (m54.out, m54.S') := by kernel_rfl
def tab55 : List Memo := m54 :: tab54
theorem ok55 : ∀ m ∈ tab55, MemoOk cx m := memo_cons hm hname extT_sound ok54 r54
def m55 : Memo := ⟨33, [(v52, (.agg [.no, .no, .no, .no, .no, .no]))], ⟨[b11, b11, b11, b12, b13, b27], []⟩, (.ret (v18, .no)), ⟨[b11, b11, b11, b12, b13, b27], []⟩⟩
theorem r55 : Ctx.call cx pre (memoExt extT inF tab55 m55.f) 400 m55.f m55.args m55.S = some (m55.out, m55.S') := by kernel_rfl
def tab56 : List Memo := m55 :: tab55
theorem ok56 : ∀ m ∈ tab56, MemoOk cx m := memo_cons hm hname extT_sound ok55 r55
def m56 : Memo := ⟨179, [((.ptr 13 0), .no)], ⟨[b11, b11, b11, b12, b13, b27, b0, b0, b13, b13, b33, b13, b13, b34], [0]⟩, (.ret ((.tup []), (.agg []))), ⟨[b11, b11, b11, b12, b13, b27, b0, b0, b13, b13, b33, b13, b13, b35], [1]⟩⟩
theorem r56 : Ctx.call cx pre (memoExt extT inF tab56 m56.f) 400 m56.f m56.args m56.S = some (m56.out, m56.S') := by kernel_rfl
def tab57 : List Memo := m56 :: tab56
theorem ok57 : ∀ m ∈ tab57, MemoOk cx m := memo_cons hm hname extT_sound ok56 r56
def m57 : Memo := ⟨179, [((.ptr 13 0), .no)], ⟨[b11, b11, b11, b12, b13, b27, b0, b0, b13, b13, b33, b13, b13, b36], [1]⟩, (.ret ((.tup []), (.agg []))), ⟨[b11, b11, b11, b12, b13, b27, b0, b0, b13, b13, b33, b13, b13, b37], [2]⟩⟩
theorem r57 : Ctx.call cx pre (memoExt extT inF tab57 m57.f) 400 m57.f m57.args m57.S = some (m57.out, m57.S') := by kernel_rfl
def tab58 : List Memo := m57 :: tab57
theorem ok58 : ∀ m ∈ tab58, MemoOk cx m := memo_cons hm hname extT_sound ok57 r57
def m58 : Memo := ⟨179, [((.ptr 13 0), .no)], ⟨[b11, b11, b11, b12, b13, b27, b0, b0, b13, b13, b33, b13, b13, b38], [2]⟩, (.ret ((.tup []), (.agg []))), ⟨[b11, b11, b11, b12, b13, b27, b0, b0, b13, b13, b33, b13, b13, b39], [3]⟩⟩
theorem r58 : Ctx.call cx pre (memoExt extT inF tab58 m58.f) 400 m58.f m58.args m58.S = some (m58.out, m58.S') := by kernel_rfl
def tab59 : List Memo := m58 :: tab58
theorem ok59 : ∀ m ∈ tab59, MemoOk cx m := memo_cons hm hname extT_sound ok58 r58
def m59 : Memo := ⟨179, [((.ptr 13 0), .no)], ⟨[b11, b11, b11, b12, b13, b27, b0, b0, b13, b13, b33, b13, b13, b39], [3]⟩, (.ret ((.tup []), (.agg []))), ⟨[b11, b11, b11, b12, b13, b27, b0, b0, b13, b13, b33, b13, b13, b40], [4]⟩⟩
theorem r59 : Ctx.call cx pre (memoExt extT inF tab59 m59.f) 400 m59.f m59.args m59.S = some (m59.out, m59.S') := by kernel_rfl
def tab60 : List Memo := m59 :: tab59
theorem ok60 : ∀ m ∈ tab60, MemoOk cx m := memo_cons hm hname extT_sound ok59 r59
def m60 : Memo := ⟨179, [((.ptr 13 0), .no)], ⟨[b11, b11, b11, b12, b13, b27, b0, b0, b13, b13, b33, b13, b13, b41], [4]⟩, (.ret ((.tup []), (.agg []))), ⟨[b11, b11, b11, b12, b13, b27, b0, b0, b13, b13, b33, b13, b13, b42], [5]⟩⟩
theorem r60 : Ctx.call cx pre (memoExt extT inF tab60 m60.f) 400 m60.f m60.args m60.S = some (m60.out, m60.S') := by kernel_rfl
def tab61 : List Memo := m60 :: tab60
theorem ok61 : ∀ m ∈ tab61, MemoOk cx m := memo_cons hm hname extT_sound ok60 r60
def m61 : Memo := ⟨179, [((.ptr 13 0), .no)], ⟨[b11, b11, b11, b12, b13, b27, b0, b0, b13, b13, b33, b13, b13, b42], [5]⟩, (.ret ((.tup []), (.agg []))), ⟨[b11, b11, b11, b12, b13, b27, b0, b0, b13, b13, b33, b13, b13, b43], [6]⟩⟩
theorem r61 : Ctx.call cx pre (memoExt extT inF tab61 m61.f) 400 m61.f m61.args m61.S = some (m61.out, m61.S') := by kernel_rfl
def tab62 : List Memo := m61 :: tab61
theorem ok62 : ∀ m ∈ tab62, MemoOk cx m := memo_cons hm hname extT_sound ok61 r61
def m62 : Memo := ⟨179, [((.ptr 13 0), .no)], ⟨[b11, b11, b11, b12, b13, b27, b0, b0, b13, b13, b33, b13, b13, b44], [6]⟩, (.ret ((.tup []), (.agg []))), ⟨[b11, b11, b11, b12, b13, b27, b0, b0, b13, b13, b33, b13, b13, b45], [7]⟩⟩
theorem r62 : Ctx.call cx pre (memoExt extT inF tab62 m62.f) 400 m62.f m62.args m62.S = some (m62.out, m62.S') := by kernel_rfl
def tab63 : List Memo := m62 :: tab62
theorem ok63 : ∀ m ∈ tab63, MemoOk cx m := memo_cons hm hname extT_sound ok62 r62
def m63 : Memo := ⟨179, [((.ptr 13 0), .no)], ⟨[b11, b11, b11, b12, b13, b27, b0, b0, b13, b13, b33, b13, b13, b46], [7]⟩, (.ret ((.tup []), (.agg []))), ⟨[b11, b11, b11, b12, b13, b27, b0, b0, b13, b13, b33, b13, b13, b47], [8]⟩⟩
theorem r63 : Ctx.call cx pre (memoExt extT inF tab63 m63.f) 400 m63.f m63.args m63.S = some (m63.out, m63.S') := by kernel_rfl
def tab64 : List Memo := m63 :: tab63
theorem ok64 : ∀ m ∈ tab64, MemoOk cx m := memo_cons hm hname extT_sound ok63 r63
def m64 : Memo := ⟨179, [((.ptr 13 0), .no)], ⟨[b11, b11, b11, b12, b13, b27, b0, b0, b13, b13, b33, b13, b13, b47], [8]⟩, (.ret ((.tup []), (.agg []))), ⟨[b11, b11, b11, b12, b13, b27, b0, b0, b13, b13, b33, b13, b13, b48], [9]⟩⟩
theorem r64 : Ctx.call cx pre (memoExt extT inF tab64 m64.f) 400 m64.f m64.args m64.S = some (m64.out, m64.S') := by kernel_rfl
def tab65 : List Memo := m64 :: tab64
theorem ok65 : ∀ m ∈ tab65, MemoOk cx m := memo_cons hm hname extT_sound ok64 r64
def m65 : Memo := ⟨179, [((.ptr 13 0), .no)], ⟨[b11, b11, b11, b12, b13, b27, b0, b0, b13, b13, b33, b13, b13, b48], [9]⟩, (.ret ((.tup []), (.agg []))), ⟨[b11, b11, b11, b12, b13, b27, b0, b0, b13, b13, b33, b13, b13, b49], [10]⟩⟩
theorem r65 : Ctx.call cx pre (memoExt extT inF tab65 m65.f) 400 m65.f m65.args m65.S = some (m65.out, m65.S') := by kernel_rfl
def tab66 : List Memo := m65 :: tab65
theorem ok66 : ∀ m ∈ tab66, MemoOk cx m := memo_cons hm hname extT_sound ok65 r65
def m66 : Memo := ⟨122, [(v18, .no)], ⟨[b11, b11, b11, b12, b13, b27, b0, b0, b13, b13], []⟩, (.ret ((.tup [v51, (.int .i64 0), (.int .i64 0)]), (.agg [(.tok 0), .no, .no]))), ⟨[b11, b11, b11, b12, b13, b27, b0, b0, b13, b13], [11]⟩⟩
theorem r66 : Ctx.call cx pre (memoExt extT inF tab66 m66.f) 400 m66.f m66.args m66.S = some (m66.out, m66.S') := by kernel_rfl
def tab67 : List Memo := m66 :: tab66
theorem ok67 : ∀ m ∈ tab67, MemoOk cx m := memo_cons hm hname extT_sound ok66 r66
def m67 : Memo := ⟨258, [((.ptr 10 0), .no)], ⟨[b11, b11, b11, b12, b13, b27, b0, b0, b13, b13, b50, b0, b0, b0, b0, b0], [11]⟩, (.ret ((.int .i64 (-1)), .no)), ⟨[b11, b11, b11, b12, b13, b27, b0, b0, b13, b13, b50, b0, b0, b0, b0, b0], [11]⟩⟩
theorem r67 : Ctx.call cx pre (memoExt extT inF tab67 m67.f) 400 m67.f m67.args m67.S = some (m67.out, m67.S') := by kernel_rfl
def tab68 : List Memo := m67 :: tab67
theorem ok68 : ∀ m ∈ tab68, MemoOk cx m := memo_cons hm hname extT_sound ok67 r67
def m68 : Memo := ⟨239, [((.ptr 10 0), .no), ((.int .i64 0), .no)], ⟨[b11, b11, b11, b12, b13, b27, b0, b0, b13, b13, b50, b0, b0, b0, b0, b0], [11]⟩, (.ret ((.tup [(.sl []), (.bool false)]), (.agg [(.tok 1), .no]))), ⟨[b11, b11, b11, b12, b13, b27, b0, b0, b13, b13, b50, b0, b0, b0, b0, b0], [11, 0]⟩⟩
theorem r68 : Ctx.call cx pre (memoExt extT inF tab68 m68.f) 400 m68.f m68.args m68.S = some (m68.out, m68.S') := by kernel_rfl
def tab69 : List Memo := m68 :: tab68
theorem ok69 : ∀ m ∈ tab69, MemoOk cx m := memo_cons hm hname extT_sound ok68 r68
def m69 : Memo := ⟨285, [((.ptr 10 0), .no), ((.int .i64 0), .no)], ⟨[b11, b11, b11, b12, b13, b27, b0, b0, b13, b13, b50, b0, b0, b0, b0, b0, b0, b0, b0, b0, b0, b0, b51], [11, 0]⟩, (.ret (v19, .no)), ⟨[b11, b11, b11, b12, b13, b27, b0, b0, b13, b13, b52, b0, b0, b0, b0, b0, b0, b0, b0, b0, b0, b0, b51], [11, 0]⟩⟩
theorem r69 : Ctx.call cx pre (memoExt extT inF tab69 m69.f) 400 m69.f m69.args m69.S = some (m69.out, m69.S') := by kernel_rfl
def tab70 : List Memo := m69 :: tab69
theorem ok70 : ∀ m ∈ tab70, MemoOk cx m := memo_cons hm hname extT_sound ok69 r69
def m70 : Memo := ⟨281, [((.ptr 10 0), .no), ((.int .i64 0), .no)], ⟨[b11, b11, b11, b12, b13, b27, b0, b0, b13, b13, b50, b0, b0, b0, b0, b0, b0, b0, b0, b0, b0], [11, 0]⟩, (.ret (v19, .no)), ⟨[b11, b11, b11, b12, b13, b27, b0, b0, b13, b13, b52, b0, b0, b0, b0, b0, b0, b0, b0, b0, b0], [11, 0]⟩⟩
theorem r70 : Ctx.call cx pre (memoExt extT inF tab70 m70.f) 400 m70.f m70.args m70.S = some (m70.out, m70.S') := by kernel_rfl
def tab71 : List Memo := m70 :: tab70
theorem ok71 : ∀ m ∈ tab71, MemoOk cx m := memo_cons hm hname extT_sound ok70 r70
def m71 : Memo := ⟨279, [((.ptr 10 0), .no), ((.int .i64 0), .no)], ⟨[b11, b11, b11, b12, b13, b27, b0, b0, b13, b13, b50, b0, b0, b0, b0, b0, b0, b0, b0, b0], [11, 0]⟩, (.ret (v19, .no)), ⟨[b11, b11, b11, b12, b13, b27, b0, b0, b13, b13, b52, b0, b0, b0, b0, b0, b0, b0, b0, b0], [11, 0]⟩⟩
theorem r71 : Ctx.call cx pre (memoExt extT inF tab71 m71.f) 400 m71.f m71.args m71.S = some (m71.out, m71.S') := by kernel_rfl
def tab72 : List Memo := m71 :: tab71
theorem ok72 : ∀ m ∈ tab72, MemoOk cx m := memo_cons hm hname extT_sound ok71 r71
def m72 : Memo := ⟨276, [((.ptr 10 0), .no), ((.int .i64 0), .no)], ⟨[b11, b11, b11, b12, b13, b27, b0, b0, b13, b13, b50, b0, b0, b0, b0, b0, b0, b0, b0], [11, 0]⟩, (.ret (v19, .no)), ⟨[b11, b11, b11, b12, b13, b27, b0, b0, b13, b13, b52, b0, b0, b0, b0, b0, b0, b0, b0], [11, 0]⟩⟩
theorem r72 : Ctx.call cx pre (memoExt extT inF tab72 m72.f) 400 m72.f m72.args m72.S = some (m72.out, m72.S') := by kernel_rfl
def tab73 : List Memo := m72 :: tab72
theorem ok73 : ∀ m ∈ tab73, MemoOk cx m := memo_cons hm hname extT_sound ok72 r72
def m73 : Memo := ⟨269, [((.ptr 10 0), .no), ((.int .i64 0), .no)], ⟨[b11, b11, b11, b12, b13, b27, b0, b0, b13, b13, b50, b0, b0, b0, b0, b0, b0, b0], [11, 0]⟩, (.ret (v19, .no)), ⟨[b11, b11, b11, b12, b13, b27, b0, b0, b13, b13, b52, b0, b0, b0, b0, b0, b0, b0], [11, 0]⟩⟩
theorem r73 : Ctx.call cx pre (memoExt extT inF tab73 m73.f) 400 m73.f m73.args m73.S = some (m73.out, m73.S') := by kernel_rfl
def tab74 : List Memo := m73 :: tab73
theorem ok74 : ∀ m ∈ tab74, MemoOk cx m := memo_cons hm hname extT_sound ok73 r73
def m74 : Memo := ⟨261, [((.ptr 10 0), .no), ((.int .i64 0), .no)], ⟨[b11, b11, b11, b12, b13, b27, b0, b0, b13, b13, b50, b0, b0, b0, b0, b0, b0], [11, 0]⟩, (.ret (v19, .no)), ⟨[b11, b11, b11, b12, b13, b27, b0, b0, b13, b13, b52, b0, b0, b0, b0, b0, b0], [11, 0]⟩⟩
theorem r74 : Ctx.call cx pre (memoExt extT inF tab74 m74.f) 400 m74.f m74.args m74.S = some (m74.out, m74.S') := by kernel_rfl
def tab75 : List Memo := m74 :: tab74
theorem ok75 : ∀ m ∈ tab75, MemoOk cx m := memo_cons hm hname extT_sound ok74 r74
def m75 : Memo := ⟨240, [((.ptr 10 0), .no), ((.int .i64 0), .no)], ⟨[b11, b11, b11, b12, b13, b27, b0, b0, b13, b13, b50, b0, b0, b0, b0, b0], [11, 0]⟩, (.ret (v19, .no)), ⟨[b11, b11, b11, b12, b13, b27, b0, b0, b13, b13, b52, b0, b0, b0, b0, b0], [11, 0]⟩⟩
theorem r75 : Ctx.call cx pre (memoExt extT inF tab75 m75.f) 400 m75.f m75.args m75.S = some (m75.out, m75.S') := by kernel_rfl
def tab76 : List Memo := m75 :: tab75
theorem ok76 : ∀ m ∈ tab76, MemoOk cx m := memo_cons hm hname extT_sound ok75 r75
def m76 : Memo := ⟨215, [((.ptr 10 0), .no), ((.int .i64 0), .no)], ⟨[b11, b11, b11, b12, b13, b27, b0, b0, b13, b13, b50, b0, b0, b0, b0], [11]⟩, (.ret (v19, .no)), ⟨[b11, b11, b11, b12, b13, b27, b0, b0, b13, b13, b52, b0, b0, b0, b0], [11]⟩⟩
theorem r76 : Ctx.call cx pre (memoExt extT inF tab76 m76.f) 400 m76.f m76.args m76.S = some (m76.out, m76.S') := by kernel_rfl
def tab77 : List Memo := m76 :: tab76
theorem ok77 : ∀ m ∈ tab77, MemoOk cx m := memo_cons hm hname extT_sound ok76 r76
def m77 : Memo := ⟨181, [((.ptr 10 0), .no), ((.int .i64 0), .no)], ⟨[b11, b11, b11, b12, b13, b27, b0, b0, b13, b13, b50, b0, b0, b0], [11]⟩, (.ret (v19, .no)), ⟨[b11, b11, b11, b12, b13, b27, b0, b0, b13, b13, b52, b0, b0, b0], [11]⟩⟩
theorem r77 : Ctx.call cx pre (memoExt extT inF tab77 m77.f) 400 m77.f m77.args m77.S = some (m77.out, m77.S') := by kernel_rfl
def tab78 : List Memo := m77 :: tab77
theorem ok78 : ∀ m ∈ tab78, MemoOk cx m := memo_cons hm hname extT_sound ok77 r77
def m78 : Memo := ⟨127, [((.ptr 10 0), .no), ((.int .i64 0), .no)], ⟨[b11, b11, b11, b12, b13, b27, b0, b0, b13, b13, b50, b0, b0], [11]⟩, (.ret (v19, .no)), ⟨[b11, b11, b11, b12, b13, b27, b0, b0, b13, b13, b52, b0, b0], [11]⟩⟩
theorem r78 : Ctx.call cx pre (memoExt extT inF tab78 m78.f) 400 m78.f m78.args m78.S = some (m78.out, m78.S') := by kernel_rfl
def tab79 : List Memo := m78 :: tab78
theorem ok79 : ∀ m ∈ tab79, MemoOk cx m := memo_cons hm hname extT_sound ok78 r78
def m79 : Memo := ⟨258, [((.ptr 10 0), .no)], ⟨[b11, b11, b11, b12, b13, b27, b0, b0, b13, b13, b53, b0, b0, b4, b54, b0, b0, b0, b0], [11]⟩, (.ret ((.int .i64 9), .no)), ⟨[b11, b11, b11, b12, b13, b27, b0, b0, b13, b13, b53, b0, b0, b4, b54, b0, b0, b0, b0], [11]⟩⟩
theorem r79 : Ctx.call cx pre (memoExt extT inF tab79 m79.f) 400 m79.f m79.args m79.S = some (m79.out, m79.S') := by kernel_rfl
def tab80 : List Memo := m79 :: tab79
theorem ok80 : ∀ m ∈ tab80, MemoOk cx m := memo_cons hm hname extT_sound ok79 r79
def m80 : Memo := ⟨259, [((.ptr 10 0), .no), ((.int .i64 9), .no)], ⟨[b11, b11, b11, b12, b13, b27, b0, b0, b13, b13, b53, b0, b0, b4, b54, b0, b0, b0, b0], [11]⟩, (.ret ((.bool false), .no)), ⟨[b11, b11, b11, b12, b13, b27, b0, b0, b13, b13, b53, b0, b0, b4, b54, b0, b0, b0, b0], [11]⟩⟩
theorem r80 : Ctx.call cx pre (memoExt extT inF tab80 m80.f) 400 m80.f m80.args m80.S = some (m80.out, m80.S') := by kernel_rfl
def tab81 : List Memo := m80 :: tab80
theorem ok81 : ∀ m ∈ tab81, MemoOk cx m := memo_cons hm hname extT_sound ok80 r80
def m81 : Memo := ⟨239, [((.ptr 10 0), .no), ((.int .i64 1), .no)], ⟨[b11, b11, b11, b12, b13, b27, b0, b0, b13, b13, b53, b0, b0, b4, b54, b0, b0, b0, b0], [11]⟩, (.ret ((.tup [(.sl []), (.bool false)]), (.agg [(.tok 1), .no]))), ⟨[b11, b11, b11, b12, b13, b27, b0, b0, b13, b13, b53, b0, b0, b4, b54, b0, b0, b0, b0], [11, 0]⟩⟩
theorem r81 : Ctx.call cx pre (memoExt extT inF tab81 m81.f) 400 m81.f m81.args m81.S = some (m81.out, m81.S') := by kernel_rfl
def tab82 : List Memo := m81 :: tab81
theorem ok82 : ∀ m ∈ tab82, MemoOk cx m := memo_cons hm hname extT_sound ok81 r81
def m82 : Memo := ⟨258, [((.ptr 10 0), .no)], ⟨[b11, b11, b11, b12, b13, b27, b0, b0, b13, b13, b55, b0, b0, b4, b54, b0, b0, b0, b0, b0, b0, b0, b0, b0, b0, b56, b0, b56, b0, b0, b0, b0], [11, 0]⟩, (.ret ((.int .i64 (-1)), .no)), ⟨[b11, b11, b11, b12, b13, b27, b0, b0, b13, b13, b55, b0, b0, b4, b54, b0, b0, b0, b0, b0, b0, b0, b0, b0, b0, b56, b0, b56, b0, b0, b0, b0], [11, 0]⟩⟩
theorem r82 : Ctx.call cx pre (memoExt extT inF tab82 m82.f) 400 m82.f m82.args m82.S = some (m82.out, m82.S') := by kernel_rfl
def tab83 : List Memo := m82 :: tab82
theorem ok83 : ∀ m ∈ tab83, MemoOk cx m := memo_cons hm hname extT_sound ok82 r82
def m83 : Memo := ⟨239, [((.ptr 10 0), .no), ((.int .i64 2), .no)], ⟨[b11, b11, b11, b12, b13, b27, b0, b0, b13, b13, b55, b0, b0, b4, b54, b0, b0, b0, b0, b0, b0, b0, b0, b0, b0, b56, b0, b56, b0, b0, b0, b0], [11, 0]⟩, (.ret ((.tup [(.sl []), (.bool false)]), (.agg [(.tok 2), .no]))), ⟨[b11, b11, b11, b12, b13, b27, b0, b0, b13, b13, b55, b0, b0, b4, b54, b0, b0, b0, b0, b0, b0, b0, b0, b0, b0, b56, b0, b56, b0, b0, b0, b0], [11, 0, 0]⟩⟩
theorem r83 : Ctx.call cx pre (memoExt extT inF tab83 m83.f) 400 m83.f m83.args m83.S = some (m83.out, m83.S') := by kernel_rfl
def tab84 : List Memo := m83 :: tab83
theorem ok84 : ∀ m ∈ tab84, MemoOk cx m := memo_cons hm hname extT_sound ok83 r83
def m84 : Memo := ⟨285, [((.ptr 10 0), .no), ((.int .i64 2), .no)], ⟨[b11, b11, b11, b12, b13, b27, b0, b0, b13, b13, b55, b0, b0, b4, b54, b0, b0, b0, b0, b0, b0, b0, b0, b0, b0, b56, b0, b56, b0, b0, b0, b0, b0, b0, b0, b0, b0, b0, b57], [11, 0, 0]⟩, (.ret (v22, .no)), ⟨[b11, b11, b11, b12, b13, b27, b0, b0, b13, b13, b58, b0, b0, b4, b54, b0, b0, b0, b0, b0, b0, b0, b0, b0, b0, b56, b0, b56, b0, b0, b0, b0, b0, b0, b0, b0, b0, b0, b57], [11, 0, 0]⟩⟩
theorem r84 : Ctx.call cx pre (memoExt extT inF tab84 m84.f) 400 m84.f m84.args m84.S = some (m84.out, m84.S') := by kernel_rfl
def tab85 : List Memo := m84 :: tab84
theorem ok85 : ∀ m ∈ tab85, MemoOk cx m := memo_cons hm hname extT_sound ok84 r84
def m85 : Memo := ⟨281, [((.ptr 10 0), .no), ((.int .i64 2), .no)], ⟨[b11, b11, b11, b12, b13, b27, b0, b0, b13, b13, b55, b0, b0, b4, b54, b0, b0, b0, b0, b0, b0, b0, b0, b0, b0, b56, b0, b56, b0, b0, b0, b0, b0, b0, b0, b0, b0], [11, 0, 0]⟩, (.ret (v22, .no)), ⟨[b11, b11, b11, b12, b13, b27, b0, b0, b13, b13, b58, b0, b0, b4, b54, b0, b0, b0, b0, b0, b0, b0, b0, b0, b0, b56, b0, b56, b0, b0, b0, b0, b0, b0, b0, b0, b0], [11, 0, 0]⟩⟩
theorem r85 : Ctx.call cx pre (memoExt extT inF tab85 m85.f) 400 m85.f m85.args m85.S = some (m85.out, m85.S') := by kernel_rfl
def tab86 : List Memo := m85 :: tab85
theorem ok86 : ∀ m ∈ tab86, MemoOk cx m := memo_cons hm hname extT_sound ok85 r85
def m86 : Memo := ⟨279, [((.ptr 10 0), .no), ((.int .i64 2), .no)], ⟨[b11, b11, b11, b12, b13, b27, b0, b0, b13, b13, b55, b0, b0, b4, b54, b0, b0, b0, b0, b0, b0, b0, b0, b0, b0, b56, b0, b56, b0, b0, b0, b0, b0, b0, b0, b0], [11, 0, 0]⟩, (.ret (v22, .no)), ⟨[b11, b11, b11, b12, b13, b27, b0, b0, b13, b13, b58, b0, b0, b4, b54, b0, b0, b0, b0, b0, b0, b0, b0, b0, b0, b56, b0, b56, b0, b0, b0, b0, b0, b0, b0, b0], [11, 0, 0]⟩⟩
theorem r86 : Ctx.call cx pre (memoExt extT inF tab86 m86.f) 400 m86.f m86.args m86.S = some (m86.out, m86.S') := by kernel_rfl
def tab87 : List Memo := m86 :: tab86
theorem ok87 : ∀ m ∈ tab87, MemoOk cx m := memo_cons hm hname extT_sound ok86 r86
def m87 : Memo := ⟨276, [((.ptr 10 0), .no), ((.int .i64 2), .no)], ⟨[b11, b11, b11, b12, b13, b27, b0, b0, b13, b13, b55, b0, b0, b4, b54, b0, b0, b0, b0, b0, b0, b0, b0, b0, b0, b56, b0, b56, b0, b0, b0, b0, b0, b0, b0], [11, 0, 0]⟩, (.ret (v22, .no)), ⟨[b11, b11, b11, b12, b13, b27, b0, b0, b13, b13, b58, b0, b0, b4, b54, b0, b0, b0, b0, b0, b0, b0, b0, b0, b0, b56, b0, b56, b0, b0, b0, b0, b0, b0, b0], [11, 0, 0]⟩⟩
theorem r87 : Ctx.call cx pre (memoExt extT inF tab87 m87.f) 400 m87.f m87.args m87.S = some (m87.out, m87.S') := by kernel_rfl
def tab88 : List Memo := m87 :: tab87
theorem ok88 : ∀ m ∈ tab88, MemoOk cx m := memo_cons hm hname extT_sound ok87 r87
def m88 : Memo := ⟨258, [((.ptr 10 0), .no)], ⟨[b11, b11, b11, b12, b13, b27, b0, b0, b13, b13, b59, b0, b0, b4, b54, b0, b0, b0, b0, b0, b0, b0, b0, b0, b0, b56, b0, b56, b0, b0, b0, b0, b0, b0, b0, b60, b0, b0, b0, b61, b0, b61, b0, b0, b0, b0], [11, 0, 0]⟩, (.ret ((.int .i64 (-1)), .no)), ⟨[b11, b11, b11, b12, b13, b27, b0, b0, b13, b13, b59, b0, b0, b4, b54, b0, b0, b0, b0, b0, b0, b0, b0, b0, b0, b56, b0, b56, b0, b0, b0, b0, b0, b0, b0, b60, b0, b0, b0, b61, b0, b61, b0, b0, b0, b0], [11, 0, 0]⟩⟩
theorem r88 : Ctx.call cx pre (memoExt extT inF tab88 m88.f) 400 m88.f m88.args m88.S = some (m88.out, m88.S') := by kernel_rfl
def tab89 : List Memo := m88 :: tab88
theorem ok89 : ∀ m ∈ tab89, MemoOk cx m := memo_cons hm hname extT_sound ok88 r88
def m89 : Memo := ⟨239, [((.ptr 10 0), .no), ((.int .i64 3), .no)], ⟨[b11, b11, b11, b12, b13, b27, b0, b0, b13, b13, b59, b0, b0, b4, b54, b0, b0, b0, b0, b0, b0, b0, b0, b0, b0, b56, b0, b56, b0, b0, b0, b0, b0, b0, b0, b60, b0, b0, b0, b61, b0, b61, b0, b0, b0, b0], [11, 0, 0]⟩, (.ret ((.tup [(.sl []), (.bool false)]), (.agg [(.tok 3), .no]))), ⟨[b11, b11, b11, b12, b13, b27, b0, b0, b13, b13, b59, b0, b0, b4, b54, b0, b0, b0, b0, b0, b0, b0, b0, b0, b0, b56, b0, b56, b0, b0, b0, b0, b0, b0, b0, b60, b0, b0, b0, b61, b0, b61, b0, b0, b0, b0], [11, 0, 0, 0]⟩⟩
theorem r89 : Ctx.call cx pre (memoExt extT inF tab89 m89.f) 400 m89.f m89.args m89.S = some (m89.out, m89.S') := by kernel_rfl
def tab90 : List Memo := m89 :: tab89
theorem ok90 : ∀ m ∈ tab90, MemoOk cx m := memo_cons hm hname extT_sound ok89 r89
def m90 : Memo := ⟨285, [((.ptr 10 0), .no), ((.int .i64 3), .no)], ⟨[b11, b11, b11, b12, b13, b27, b0, b0, b13, b13, b59, b0, b0, b4, b54, b0, b0, b0, b0, b0, b0, b0, b0, b0, b0, b56, b0, b56, b0, b0, b0, b0, b0, b0, b0, b60, b0, b0, b0, b61, b0, b61, b0, b0, b0, b0, b0, b0, b0, b0, b0, b0, b62], [11, 0, 0, 0]⟩, (.ret (v23, .no)), ⟨[b11, b11, b11, b12, b13, b27, b0, b0, b13, b13, b63, b0, b0, b4, b54, b0, b0, b0, b0, b0, b0, b0, b0, b0, b0, b56, b0, b56, b0, b0, b0, b0, b0, b0, b0, b60, b0, b0, b0, b61, b0, b61, b0, b0, b0, b0, b0, b0, b0, b0, b0, b0, b62], [11, 0, 0, 0]⟩⟩
theorem r90 : Ctx.call cx pre (memoExt extT inF tab90 m90.f) 400 m90.f m90.args m90.S = some (m90.out, m90.S') := by kernel_rfl
def tab91 : List Memo := m90 :: tab90
theorem ok91 : ∀ m ∈ tab91, MemoOk cx m := memo_cons hm hname extT_sound ok90 r90
def m91 : Memo := ⟨281, [((.ptr 10 0), .no), ((.int .i64 3), .no)], ⟨[b11, b11, b11, b12, b13, b27, b0, b0, b13, b13, b59, b0, b0, b4, b54, b0, b0, b0, b0, b0, b0, b0, b0, b0, b0, b56, b0, b56, b0, b0, b0, b0, b0, b0, b0, b60, b0, b0, b0, b61, b0, b61, b0, b0, b0, b0, b0, b0, b0, b0, b0], [11, 0, 0, 0]⟩, (.ret (v23, .no)), ⟨[b11, b11, b11, b12, b13, b27, b0, b0, b13, b13, b63, b0, b0, b4, b54, b0, b0, b0, b0, b0, b0, b0, b0, b0, b0, b56, b0, b56, b0, b0, b0, b0, b0, b0, b0, b60, b0, b0, b0, b61, b0, b61, b0, b0, b0, b0, b0, b0, b0, b0, b0], [11, 0, 0, 0]⟩⟩
theorem r91 : Ctx.call cx pre (memoExt extT inF tab91 m91.f) 400 m91.f m91.args m91.S = some (m91.out, m91.S') := by kernel_rfl
def tab92 : List Memo := m91 :: tab91
theorem ok92 : ∀ m ∈ tab92, MemoOk cx m := memo_cons hm hname extT_sound ok91 r91
def m92 : Memo := ⟨279, [((.ptr 10 0), .no), ((.int .i64 3), .no)], ⟨[b11, b11, b11, b12, b13, b27, b0, b0, b13, b13, b59, b0, b0, b4, b54, b0, b0, b0, b0, b0, b0, b0, b0, b0, b0, b56, b0, b56, b0, b0, b0, b0, b0, b0, b0, b60, b0, b0, b0, b61, b0, b61, b0, b0, b0, b0, b0, b0, b0, b0], [11, 0, 0, 0]⟩, (.ret (v23, .no)), ⟨[b11, b11, b11, b12, b13, b27, b0, b0, b13, b13, b63, b0, b0, b4, b54, b0, b0, b0, b0, b0, b0, b0, b0, b0, b0, b56, b0, b56, b0, b0, b0, b0, b0, b0, b0, b60, b0, b0, b0, b61, b0, b61, b0, b0, b0, b0, b0, b0, b0, b0], [11, 0, 0, 0]⟩⟩
theorem r92 : Ctx.call cx pre (memoExt extT inF tab92 m92.f) 400 m92.f m92.args m92.S = some (m92.out, m92.S') := by kernel_rfl
def tab93 : List Memo := m92 :: tab92
theorem ok93 : ∀ m ∈ tab93, MemoOk cx m := memo_cons hm hname extT_sound ok92 r92
def m93 : Memo := ⟨297, [((.str [49]), .no), ((.int .i64 0), .no)], ⟨[b11, b11, b11, b12, b13, b27, b0, b0, b13, b13, b64, b0, b0, b4, b54, b0, b0, b0, b0, b0, b0, b0, b0, b0, b0, b56, b0, b56, b0, b0, b0, b0, b0, b0, b0, b60, b0, b0, b0, b61, b0, b61, b0, b0, b0, b0, b0, b0, b0, b0, b65, b0, b0, b66, b0, b66, b67], [11, 0, 0, 0]⟩, (.ret ((.bool true), .no)), ⟨[b11, b11, b11, b12, b13, b27, b0, b0, b13, b13, b64, b0, b0, b4, b54, b0, b0, b0, b0, b0, b0, b0, b0, b0, b0, b56, b0, b56, b0, b0, b0, b0, b0, b0, b0, b60, b0, b0, b0, b61, b0, b61, b0, b0, b0, b0, b0, b0, b0, b0, b65, b0, b0, b66, b0, b66, b67], [11, 0, 0, 0]⟩⟩
theorem r93 : Ctx.call cx pre (memoExt extT inF tab93 m93.f) 400 m93.f m93.args m93.S = some (m93.out, m93.S') := by kernel_rfl
def tab94 : List Memo := m93 :: tab93
theorem ok94 : ∀ m ∈ tab94, MemoOk cx m := memo_cons hm hname extT_sound ok93 r93
def m94 : Memo := ⟨298, [((.int .u64 0), .no), ((.int .u64 10), .no)], ⟨[b11, b11, b11, b12, b13, b27, b0, b0, b13, b13, b64, b0, b0, b4, b54, b0, b0, b0, b0, b0, b0, b0, b0, b0, b0, b56, b0, b56, b0, b0, b0, b0, b0, b0, b0, b60, b0, b0, b0, b61, b0, b61, b0, b0, b0, b0, b0, b0, b0, b0, b65, b0, b0, b66, b0, b66, b67], [11, 0, 0, 0]⟩, (.ret ((.tup [(.int .u64 0), (.int .u64 0)]), (.agg [.no, .no]))), ⟨[b11, b11, b11, b12, b13, b27, b0, b0, b13, b13, b64, b0, b0, b4, b54, b0, b0, b0, b0, b0, b0, b0, b0, b0, b0, b56, b0, b56, b0, b0, b0, b0, b0, b0, b0, b60, b0, b0, b0, b61, b0, b61, b0, b0, b0, b0, b0, b0, b0, b0, b65, b0, b0, b66, b0, b66, b67], [11, 0, 0, 0]⟩⟩
theorem r94 : Ctx.call cx pre (memoExt extT inF tab94 m94.f) 400 m94.f m94.args m94.S = some (m94.out, m94.S') := by kernel_rfl
def tab95 : List Memo := m94 :: tab94
theorem ok95 : ∀ m ∈ tab95, MemoOk cx m := memo_cons hm hname extT_sound ok94 r94
def m95 : Memo := ⟨298, [((.int .u64 1), .no), ((.int .u64 1000000), .no)], ⟨[b11, b11, b11, b12, b13, b27, b0, b0, b13, b13, b64, b0, b0, b4, b54, b0, b0, b0, b0, b0, b0, b0, b0, b0, b0, b56, b0, b56, b0, b0, b0, b0, b0, b0, b0, b60, b0, b0, b0, b61, b0, b61, b0, b0, b0, b0, b0, b0, b0, b0, b65, b0, b0, b66, b0, b66, b67], [11, 0, 0, 0]⟩, (.ret ((.tup [(.int .u64 0), (.int .u64 1000000)]), (.agg [.no, .no]))), ⟨[b11, b11, b11, b12, b13, b27, b0, b0, b13, b13, b64, b0, b0, b4, b54, b0, b0, b0, b0, b0, b0, b0, b0, b0, b0, b56, b0, b56, b0, b0, b0, b0, b0, b0, b0, b60, b0, b0, b0, b61, b0, b61, b0, b0, b0, b0, b0, b0, b0, b0, b65, b0, b0, b66, b0, b66, b67], [11, 0, 0, 0]⟩⟩
theorem r95 : Ctx.call cx pre (memoExt extT inF tab95 m95.f) 400 m95.f m95.args m95.S = some (m95.out, m95.S') := by kernel_rfl
def tab96 : List Memo := m95 :: tab95
theorem ok96 : ∀ m ∈ tab96, MemoOk cx m := memo_cons hm hname extT_sound ok95 r95
def m96 : Memo := ⟨299, [((.ptr 56 0), .no), ((.int .u8 49), .no), ((.int .u64 1000000), .no)], ⟨[b11, b11, b11, b12, b13, b27, b0, b0, b13, b13, b64, b0, b0, b4, b54, b0, b0, b0, b0, b0, b0, b0, b0, b0, b0, b56, b0, b56, b0, b0, b0, b0, b0, b0, b0, b60, b0, b0, b0, b61, b0, b61, b0, b0, b0, b0, b0, b0, b0, b0, b65, b0, b0, b66, b0, b66, b67], [11, 0, 0, 0]⟩, (.ret ((.tup []), (.agg []))), ⟨[b11, b11, b11, b12, b13, b27, b0, b0, b13, b13, b64, b0, b0, b4, b54, b0, b0, b0, b0, b0, b0, b0, b0, b0, b0, b56, b0, b56, b0, b0, b0, b0, b0, b0, b0, b60, b0, b0, b0, b61, b0, b61, b0, b0, b0, b0, b0, b0, b0, b0, b65, b0, b0, b66, b0, b66, b68], [11, 0, 0, 0]⟩⟩
theorem r96 : Ctx.call cx pre (memoExt extT inF tab96 m96.f) 400 m96.f m96.args m96.S = some (m96.out, m96.S') := by kernel_rfl
def tab97 : List Memo := m96 :: tab96
theorem ok97 : ∀ m ∈ tab97, MemoOk cx m := memo_cons hm hname extT_sound ok96 r96
def m97 : Memo := ⟨297, [((.str [49]), .no), ((.int .i64 1), .no)], ⟨[b11, b11, b11, b12, b13, b27, b0, b0, b13, b13, b64, b0, b0, b4, b54, b0, b0, b0, b0, b0, b0, b0, b0, b0, b0, b56, b0, b56, b0, b0, b0, b0, b0, b0, b0, b60, b0, b0, b0, b61, b0, b61, b0, b0, b0, b0, b0, b0, b0, b0, b65, b0, b0, b66, b0, b66, b68], [11, 0, 0, 0]⟩, (.ret ((.bool false), .no)), ⟨[b11, b11, b11, b12, b13, b27, b0, b0, b13, b13, b64, b0, b0, b4, b54, b0, b0, b0, b0, b0, b0, b0, b0, b0, b0, b56, b0, b56, b0, b0, b0, b0, b0, b0, b0, b60, b0, b0, b0, b61, b0, b61, b0, b0, b0, b0, b0, b0, b0, b0, b65, b0, b0, b66, b0, b66, b68], [11, 0, 0, 0]⟩⟩
theorem r97 : Ctx.call cx pre (memoExt extT inF tab97 m97.f) 400 m97.f m97.args m97.S = some (m97.out, m97.S') := by kernel_rfl
def tab98 : List Memo := m97 :: tab97
theorem ok98 : ∀ m ∈ tab98, MemoOk cx m := memo_cons hm hname extT_sound ok97 r97
def m98 : Memo := ⟨300, [((.int .u64 1000000), .no), ((.bool false), .no)], ⟨[b11, b11, b11, b12, b13, b27, b0, b0, b13, b13, b64, b0, b0, b4, b54, b0, b0, b0, b0, b0, b0, b0, b0, b0, b0, b56, b0, b56, b0, b0, b0, b0, b0, b0, b0, b60, b0, b0, b0, b61, b0, b61, b0, b0, b0, b0, b0, b0, b0, b0, b65, b0, b0, b66, b0, b66, b68], [11, 0, 0, 0]⟩, (.ret ((.tup [(.int .i64 1000000), (.int .i64 0)]), (.agg [.no, .no]))), ⟨[b11, b11, b11, b12, b13, b27, b0, b0, b13, b13, b64, b0, b0, b4, b54, b0, b0, b0, b0, b0, b0, b0, b0, b0, b0, b56, b0, b56, b0, b0, b0, b0, b0, b0, b0, b60, b0, b0, b0, b61, b0, b61, b0, b0, b0, b0, b0, b0, b0, b0, b65, b0, b0, b66, b0, b66, b68], [11, 0, 0, 0]⟩⟩
theorem r98 : Ctx.call cx pre (memoExt extT inF tab98 m98.f) 400 m98.f m98.args m98.S = some (m98.out, m98.S') := by kernel_rfl
def tab99 : List Memo := m98 :: tab98
theorem ok99 : ∀ m ∈ tab99, MemoOk cx m := memo_cons hm hname extT_sound ok98 r98
def m99 : Memo := ⟨290, [((.str [49]), .no)], ⟨[b11, b11, b11, b12, b13, b27, b0, b0, b13, b13, b64, b0, b0, b4, b54, b0, b0, b0, b0, b0, b0, b0, b0, b0, b0, b56, b0, b56, b0, b0, b0, b0, b0, b0, b0, b60, b0, b0, b0, b61, b0, b61, b0, b0, b0, b0, b0, b0, b0, b0, b65, b0, b0, b66, b0, b66], [11, 0, 0, 0]⟩, (.ret ((.tup [(.int .i64 1000000), (.int .i64 1), (.int .i64 0)]), (.agg [.no, .no, .no]))), ⟨[b11, b11, b11, b12, b13, b27, b0, b0, b13, b13, b64, b0, b0, b4, b54, b0, b0, b0, b0, b0, b0, b0, b0, b0, b0, b56, b0, b56, b0, b0, b0, b0, b0, b0, b0, b60, b0, b0, b0, b61, b0, b61, b0, b0, b0, b0, b0, b0, b0, b0, b65, b0, b0, b66, b0, b66], [11, 0, 0, 0]⟩⟩
theorem r99 : Ctx.call cx pre (memoExt extT inF tab99 m99.f) 400 m99.f m99.args m99.S = some (m99.out, m99.S') := by kernel_rfl
def tab100 : List Memo := m99 :: tab99
theorem ok100 : ∀ m ∈ tab100, MemoOk cx m := memo_cons hm hname extT_sound ok99 r99
def m100 : Memo := ⟨285, [((.ptr 10 0), .no), ((.int .i64 3), .no)], ⟨[b11, b11, b11, b12, b13, b27, b0, b0, b13, b13, b64, b0, b0, b4, b54, b0, b0, b0, b0, b0, b0, b0, b0, b0, b0, b56, b0, b56, b0, b0, b0, b0, b0, b0, b0, b60, b0, b0, b0, b61, b0, b61, b0, b0, b0, b0, b0, b0, b0, b0, b65, b0, b0, b66], [11, 0, 0, 0]⟩, (.ret (v28, .no)), ⟨[b11, b11, b11, b12, b13, b27, b0, b0, b13, b13, b69, b0, b0, b4, b54, b0, b0, b0, b0, b0, b0, b0, b0, b0, b0, b56, b0, b56, b0, b0, b0, b0, b0, b0, b0, b60, b0, b0, b0, b61, b0, b61, b0, b0, b0, b0, b0, b0, b0, b0, b65, b0, b0, b66], [11, 0, 0, 0]⟩⟩
theorem r100 : Ctx.call cx pre (memoExt extT inF tab100 m100.f) 400 m100.f m100.args m100.S = some (m100.out, m100.S') := by kernel_rfl
def tab101 : List Memo := m100 :: tab100
theorem ok101 : ∀ m ∈ tab101, MemoOk cx m := memo_cons hm hname extT_sound ok100 r100
def m101 : Memo := ⟨281, [((.ptr 10 0), .no), ((.int .i64 3), .no)], ⟨[b11, b11, b11, b12, b13, b27, b0, b0, b13, b13, b64, b0, b0, b4, b54, b0, b0, b0, b0, b0, b0, b0, b0, b0, b0, b56, b0, b56, b0, b0, b0, b0, b0, b0, b0, b60, b0, b0, b0, b61, b0, b61, b0, b0, b0, b0, b0, b0, b0, b0, b65, b0], [11, 0, 0, 0]⟩, (.ret (v28, .no)), ⟨[b11, b11, b11, b12, b13, b27, b0, b0, b13, b13, b69, b0, b0, b4, b54, b0, b0, b0, b0, b0, b0, b0, b0, b0, b0, b56, b0, b56, b0, b0, b0, b0, b0, b0, b0, b60, b0, b0, b0, b61, b0, b61, b0, b0, b0, b0, b0, b0, b0, b0, b65, b0], [11, 0, 0, 0]⟩⟩
theorem r101 : Ctx.call cx pre (memoExt extT inF tab101 m101.f) 400 m101.f m101.args m101.S = some (m101.out, m101.S') := by kernel_rfl
def tab102 : List Memo := m101 :: tab101
theorem ok102 : ∀ m ∈ tab102, MemoOk cx m := memo_cons hm hname extT_sound ok101 r101
def m102 : Memo := ⟨279, [((.ptr 10 0), .no), ((.int .i64 3), .no)], ⟨[b11, b11, b11, b12, b13, b27, b0, b0, b13, b13, b64, b0, b0, b4, b54, b0, b0, b0, b0, b0, b0, b0, b0, b0, b0, b56, b0, b56, b0, b0, b0, b0, b0, b0, b0, b60, b0, b0, b0, b61, b0, b61, b0, b0, b0, b0, b0, b0, b0, b0, b65], [11, 0, 0, 0]⟩, (.ret (v28, .no)), ⟨[b11, b11, b11, b12, b13, b27, b0, b0, b13, b13, b69, b0, b0, b4, b54, b0, b0, b0, b0, b0, b0, b0, b0, b0, b0, b56, b0, b56, b0, b0, b0, b0, b0, b0, b0, b60, b0, b0, b0, b61, b0, b61, b0, b0, b0, b0, b0, b0, b0, b0, b65], [11, 0, 0, 0]⟩⟩
theorem r102 : Ctx.call cx pre (memoExt extT inF tab102 m102.f) 400 m102.f m102.args m102.S = some (m102.out, m102.S') := by kernel_rfl
def tab103 : List Memo := m102 :: tab102
theorem ok103 : ∀ m ∈ tab103, MemoOk cx m := memo_cons hm hname extT_sound ok102 r102
def m103 : Memo := ⟨276, [((.ptr 10 0), .no), ((.int .i64 3), .no)], ⟨[b11, b11, b11, b12, b13, b27, b0, b0, b13, b13, b59, b0, b0, b4, b54, b0, b0, b0, b0, b0, b0, b0, b0, b0, b0, b56, b0, b56, b0, b0, b0, b0, b0, b0, b0, b60, b0, b0, b0, b61, b0, b61, b0, b0, b0, b0, b0, b0, b0], [11, 0, 0, 0]⟩, (.ret (v36, .no)), ⟨[b11, b11, b11, b12, b13, b27, b0, b0, b13, b13, b69, b0, b0, b4, b54, b0, b0, b0, b0, b0, b0, b0, b0, b0, b0, b56, b0, b56, b0, b0, b0, b0, b0, b0, b0, b60, b0, b0, b0, b61, b0, b61, b0, b0, b0, b0, b0, b0, b0], [11, 0, 0, 0]⟩⟩
theorem r103 : Ctx.call cx pre (memoExt extT inF tab103 m103.f) 400 m103.f m103.args m103.S = some (m103.out, m103.S') := by kernel_rfl
def tab104 : List Memo := m103 :: tab103
theorem ok104 : ∀ m ∈ tab104, MemoOk cx m := memo_cons hm hname extT_sound ok103 r103
def m104 : Memo := ⟨269, [((.ptr 10 0), .no), ((.int .i64 3), .no)], ⟨[b11, b11, b11, b12, b13, b27, b0, b0, b13, b13, b59, b0, b0, b4, b54, b0, b0, b0, b0, b0, b0, b0, b0, b0, b0, b56, b0, b56, b0, b0, b0, b0, b0, b0, b0, b60, b0, b0, b0, b61, b0, b61, b0, b0, b0, b0, b0, b0], [11, 0, 0, 0]⟩, (.ret (v36, .no)), ⟨[b11, b11, b11, b12, b13, b27, b0, b0, b13, b13, b69, b0, b0, b4, b54, b0, b0, b0, b0, b0, b0, b0, b0, b0, b0, b56, b0, b56, b0, b0, b0, b0, b0, b0, b0, b60, b0, b0, b0, b61, b0, b61, b0, b0, b0, b0, b0, b0], [11, 0, 0, 0]⟩⟩
theorem r104 : Ctx.call cx pre (memoExt extT inF tab104 m104.f) 400 m104.f m104.args m104.S = some (m104.out, m104.S') := by kernel_rfl
def tab105 : List Memo := m104 :: tab104
theorem ok105 : ∀ m ∈ tab105, MemoOk cx m := memo_cons hm hname extT_sound ok104 r104
def m105 : Memo := ⟨261, [((.ptr 10 0), .no), ((.int .i64 3), .no)], ⟨[b11, b11, b11, b12, b13, b27, b0, b0, b13, b13, b59, b0, b0, b4, b54, b0, b0, b0, b0, b0, b0, b0, b0, b0, b0, b56, b0, b56, b0, b0, b0, b0, b0, b0, b0, b60, b0, b0, b0, b61, b0, b61, b0, b0, b0, b0, b0], [11, 0, 0, 0]⟩, (.ret (v36, .no)), ⟨[b11, b11, b11, b12, b13, b27, b0, b0, b13, b13, b69, b0, b0, b4, b54, b0, b0, b0, b0, b0, b0, b0, b0, b0, b0, b56, b0, b56, b0, b0, b0, b0, b0, b0, b0, b60, b0, b0, b0, b61, b0, b61, b0, b0, b0, b0, b0], [11, 0, 0, 0]⟩⟩
theorem r105 : Ctx.call cx pre (memoExt extT inF tab105 m105.f) 400 m105.f m105.args m105.S = some (m105.out, m105.S') := by kernel_rfl
def tab106 : List Memo := m105 :: tab105
theorem ok106 : ∀ m ∈ tab106, MemoOk cx m := memo_cons hm hname extT_sound ok105 r105
def m106 : Memo := ⟨240, [((.ptr 10 0), .no), ((.int .i64 3), .no)], ⟨[b11, b11, b11, b12, b13, b27, b0, b0, b13, b13, b59, b0, b0, b4, b54, b0, b0, b0, b0, b0, b0, b0, b0, b0, b0, b56, b0, b56, b0, b0, b0, b0, b0, b0, b0, b60, b0, b0, b0, b61, b0, b61, b0, b0, b0, b0], [11, 0, 0, 0]⟩, (.ret (v36, .no)), ⟨[b11, b11, b11, b12, b13, b27, b0, b0, b13, b13, b69, b0, b0, b4, b54, b0, b0, b0, b0, b0, b0, b0, b0, b0, b0, b56, b0, b56, b0, b0, b0, b0, b0, b0, b0, b60, b0, b0, b0, b61, b0, b61, b0, b0, b0, b0], [11, 0, 0, 0]⟩⟩
theorem r106 : Ctx.call cx pre (memoExt extT inF tab106 m106.f) 400 m106.f m106.args m106.S = some (m106.out, m106.S') := by kernel_rfl
def tab107 : List Memo := m106 :: tab106
theorem ok107 : ∀ m ∈ tab107, MemoOk cx m := memo_cons hm hname extT_sound ok106 r106
def m107 : Memo := ⟨215, [((.ptr 10 0), .no), ((.int .i64 3), .no)], ⟨[b11, b11, b11, b12, b13, b27, b0, b0, b13, b13, b59, b0, b0, b4, b54, b0, b0, b0, b0, b0, b0, b0, b0, b0, b0, b56, b0, b56, b0, b0, b0, b0, b0, b0, b0, b60, b0, b0, b0, b61, b0, b61, b0, b0, b0], [11, 0, 0]⟩, (.ret (v36, .no)), ⟨[b11, b11, b11, b12, b13, b27, b0, b0, b13, b13, b69, b0, b0, b4, b54, b0, b0, b0, b0, b0, b0, b0, b0, b0, b0, b56, b0, b56, b0, b0, b0, b0, b0, b0, b0, b60, b0, b0, b0, b61, b0, b61, b0, b0, b0], [11, 0, 0]⟩⟩
theorem r107 : Ctx.call cx pre (memoExt extT inF tab107 m107.f) 400 m107.f m107.args m107.S = some (m107.out, m107.S') := by kernel_rfl
def tab108 : List Memo := m107 :: tab107
theorem ok108 : ∀ m ∈ tab108, MemoOk cx m := memo_cons hm hname extT_sound ok107 r107
def m108 : Memo := ⟨181, [((.ptr 10 0), .no), ((.int .i64 3), .no)], ⟨[b11, b11, b11, b12, b13, b27, b0, b0, b13, b13, b59, b0, b0, b4, b54, b0, b0, b0, b0, b0, b0, b0, b0, b0, b0, b56, b0, b56, b0, b0, b0, b0, b0, b0, b0, b60, b0, b0, b0, b61, b0, b61, b0, b0], [11, 0, 0]⟩, (.ret (v36, .no)), ⟨[b11, b11, b11, b12, b13, b27, b0, b0, b13, b13, b69, b0, b0, b4, b54, b0, b0, b0, b0, b0, b0, b0, b0, b0, b0, b56, b0, b56, b0, b0, b0, b0, b0, b0, b0, b60, b0, b0, b0, b61, b0, b61, b0, b0], [11, 0, 0]⟩⟩
theorem r108 : Ctx.call cx pre (memoExt extT inF tab108 m108.f) 400 m108.f m108.args m108.S = some (m108.out, m108.S') := by kernel_rfl
def tab109 : List Memo := m108 :: tab108
theorem ok109 : ∀ m ∈ tab109, MemoOk cx m := memo_cons hm hname extT_sound ok108 r108
def m109 : Memo := ⟨127, [((.ptr 10 0), .no), ((.int .i64 3), .no)], ⟨[b11, b11, b11, b12, b13, b27, b0, b0, b13, b13, b59, b0, b0, b4, b54, b0, b0, b0, b0, b0, b0, b0, b0, b0, b0, b56, b0, b56, b0, b0, b0, b0, b0, b0, b0, b60, b0, b0, b0, b61, b0, b61, b0], [11, 0, 0]⟩, (.ret (v36, .no)), ⟨[b11, b11, b11, b12, b13, b27, b0, b0, b13, b13, b69, b0, b0, b4, b54, b0, b0, b0, b0, b0, b0, b0, b0, b0, b0, b56, b0, b56, b0, b0, b0, b0, b0, b0, b0, b60, b0, b0, b0, b61, b0, b61, b0], [11, 0, 0]⟩⟩
theorem r109 : Ctx.call cx pre (memoExt extT inF tab109 m109.f) 400 m109.f m109.args m109.S = some (m109.out, m109.S') := by kernel_rfl
def tab110 : List Memo := m109 :: tab109
theorem ok110 : ∀ m ∈ tab110, MemoOk cx m := memo_cons hm hname extT_sound ok109 r109
def m110 : Memo := ⟨67, [((.ptr 10 0), .no), ((.int .i64 3), .no)], ⟨[b11, b11, b11, b12, b13, b27, b0, b0, b13, b13, b59, b0, b0, b4, b54, b0, b0, b0, b0, b0, b0, b0, b0, b0, b0, b56, b0, b56, b0, b0, b0, b0, b0, b0, b0, b60, b0, b0, b0, b61, b0, b61], [11, 0, 0]⟩, (.ret (v36, .no)), ⟨[b11, b11, b11, b12, b13, b27, b0, b0, b13, b13, b69, b0, b0, b4, b54, b0, b0, b0, b0, b0, b0, b0, b0, b0, b0, b56, b0, b56, b0, b0, b0, b0, b0, b0, b0, b60, b0, b0, b0, b61, b0, b61], [11, 0, 0]⟩⟩
theorem r110 : Ctx.call cx pre (memoExt extT inF tab110 m110.f) 400 m110.f m110.args m110.S = some (m110.out, m110.S') := by kernel_rfl
def tab111 : List Memo := m110 :: tab110
theorem ok111 : ∀ m ∈ tab111, MemoOk cx m := memo_cons hm hname extT_sound ok110 r110
def m111 : Memo := ⟨285, [((.ptr 10 0), .no), ((.int .i64 2), .no)], ⟨[b11, b11, b11, b12, b13, b27, b0, b0, b13, b13, b58, b0, b0, b4, b54, b0, b0, b0, b0, b0, b0, b0, b0, b0, b0, b56, b0, b56, b0, b0, b0, b0, b0, b0, b0, b60, b0, b0, b0, b61], [11, 0, 0]⟩, (.ret (v37, .no)), ⟨[b11, b11, b11, b12, b13, b27, b0, b0, b13, b13, b70, b0, b0, b4, b54, b0, b0, b0, b0, b0, b0, b0, b0, b0, b0, b56, b0, b56, b0, b0, b0, b0, b0, b0, b0, b60, b0, b0, b0, b61], [11, 0, 0]⟩⟩
theorem r111 : Ctx.call cx pre (memoExt extT inF tab111 m111.f) 400 m111.f m111.args m111.S = some (m111.out, m111.S') := by kernel_rfl
def tab112 : List Memo := m111 :: tab111
theorem ok112 : ∀ m ∈ tab112, MemoOk cx m := memo_cons hm hname extT_sound ok111 r111
def m112 : Memo := ⟨281, [((.ptr 10 0), .no), ((.int .i64 2), .no)], ⟨[b11, b11, b11, b12, b13, b27, b0, b0, b13, b13, b58, b0, b0, b4, b54, b0, b0, b0, b0, b0, b0, b0, b0, b0, b0, b56, b0, b56, b0, b0, b0, b0, b0, b0, b0, b60, b0, b0], [11, 0, 0]⟩, (.ret (v37, .no)), ⟨[b11, b11, b11, b12, b13, b27, b0, b0, b13, b13, b70, b0, b0, b4, b54, b0, b0, b0, b0, b0, b0, b0, b0, b0, b0, b56, b0, b56, b0, b0, b0, b0, b0, b0, b0, b60, b0, b0], [11, 0, 0]⟩⟩
theorem r112 : Ctx.call cx pre (memoExt extT inF tab112 m112.f) 400 m112.f m112.args m112.S = some (m112.out, m112.S') := by kernel_rfl
def tab113 : List Memo := m112 :: tab112
theorem ok113 : ∀ m ∈ tab113, MemoOk cx m := memo_cons hm hname extT_sound ok112 r112
def m113 : Memo := ⟨279, [((.ptr 10 0), .no), ((.int .i64 2), .no)], ⟨[b11, b11, b11, b12, b13, b27, b0, b0, b13, b13, b58, b0, b0, b4, b54, b0, b0, b0, b0, b0, b0, b0, b0, b0, b0, b56, b0, b56, b0, b0, b0, b0, b0, b0, b0, b60, b0], [11, 0, 0]⟩, (.ret (v37, .no)), ⟨[b11, b11, b11, b12, b13, b27, b0, b0, b13, b13, b70, b0, b0, b4, b54, b0, b0, b0, b0, b0, b0, b0, b0, b0, b0, b56, b0, b56, b0, b0, b0, b0, b0, b0, b0, b60, b0], [11, 0, 0]⟩⟩
theorem r113 : Ctx.call cx pre (memoExt extT inF tab113 m113.f) 400 m113.f m113.args m113.S = some (m113.out, m113.S') := by kernel_rfl
def tab114 : List Memo := m113 :: tab113
theorem ok114 : ∀ m ∈ tab114, MemoOk cx m := memo_cons hm hname extT_sound ok113 r113
def m114 : Memo := ⟨276, [((.ptr 10 0), .no), ((.int .i64 2), .no)], ⟨[b11, b11, b11, b12, b13, b27, b0, b0, b13, b13, b58, b0, b0, b4, b54, b0, b0, b0, b0, b0, b0, b0, b0, b0, b0, b56, b0, b56, b0, b0, b0, b0, b0, b0, b0, b60], [11, 0, 0]⟩, (.ret (v37, .no)), ⟨[b11, b11, b11, b12, b13, b27, b0, b0, b13, b13, b70, b0, b0, b4, b54, b0, b0, b0, b0, b0, b0, b0, b0, b0, b0, b56, b0, b56, b0, b0, b0, b0, b0, b0, b0, b60], [11, 0, 0]⟩⟩
theorem r114 : Ctx.call cx pre (memoExt extT inF tab114 m114.f) 400 m114.f m114.args m114.S = some (m114.out, m114.S') := by kernel_rfl
def tab115 : List Memo := m114 :: tab114
theorem ok115 : ∀ m ∈ tab115, MemoOk cx m := memo_cons hm hname extT_sound ok114 r114
def m115 : Memo := ⟨269, [((.ptr 10 0), .no), ((.int .i64 2), .no)], ⟨[b11, b11, b11, b12, b13, b27, b0, b0, b13, b13, b55, b0, b0, b4, b54, b0, b0, b0, b0, b0, b0, b0, b0, b0, b0, b56, b0, b56, b0, b0, b0, b0, b0, b0], [11, 0, 0]⟩, (.ret (v46, .no)), ⟨[b11, b11, b11, b12, b13, b27, b0, b0, b13, b13, b70, b0, b0, b4, b54, b0, b0, b0, b0, b0, b0, b0, b0, b0, b0, b56, b0, b56, b0, b0, b0, b0, b0, b0], [11, 0, 0]⟩⟩
theorem r115 : Ctx.call cx pre (memoExt extT inF tab115 m115.f) 400 m115.f m115.args m115.S = some (m115.out, m115.S') := by kernel_rfl
def tab116 : List Memo := m115 :: tab115
theorem ok116 : ∀ m ∈ tab116, MemoOk cx m := memo_cons hm hname extT_sound ok115 r115
def m116 : Memo := ⟨261, [((.ptr 10 0), .no), ((.int .i64 2), .no)], ⟨[b11, b11, b11, b12, b13, b27, b0, b0, b13, b13, b55, b0, b0, b4, b54, b0, b0, b0, b0, b0, b0, b0, b0, b0, b0, b56, b0, b56, b0, b0, b0, b0, b0], [11, 0, 0]⟩, (.ret (v46, .no)), ⟨[b11, b11, b11, b12, b13, b27, b0, b0, b13, b13, b70, b0, b0, b4, b54, b0, b0, b0, b0, b0, b0, b0, b0, b0, b0, b56, b0, b56, b0, b0, b0, b0, b0], [11, 0, 0]⟩⟩
theorem r116 : Ctx.call cx pre (memoExt extT inF tab116 m116.f) 400 m116.f m116.args m116.S = some (m116.out, m116.S') := by kernel_rfl
def tab117 : List Memo := m116 :: tab116
theorem ok117 : ∀ m ∈ tab117, MemoOk cx m := memo_cons hm hname extT_sound ok116 r116
def m117 : Memo := ⟨240, [((.ptr 10 0), .no), ((.int .i64 2), .no)], ⟨[b11, b11, b11, b12, b13, b27, b0, b0, b13, b13, b55, b0, b0, b4, b54, b0, b0, b0, b0, b0, b0, b0, b0, b0, b0, b56, b0, b56, b0, b0, b0, b0], [11, 0, 0]⟩, (.ret (v46, .no)), ⟨[b11, b11, b11, b12, b13, b27, b0, b0, b13, b13, b70, b0, b0, b4, b54, b0, b0, b0, b0, b0, b0, b0, b0, b0, b0, b56, b0, b56, b0, b0, b0, b0], [11, 0, 0]⟩⟩
theorem r117 : Ctx.call cx pre (memoExt extT inF tab117 m117.f) 400 m117.f m117.args m117.S = some (m117.out, m117.S') := by kernel_rfl
def tab118 : List Memo := m117 :: tab117
theorem ok118 : ∀ m ∈ tab118, MemoOk cx m := memo_cons hm hname extT_sound ok117 r117
def m118 : Memo := ⟨215, [((.ptr 10 0), .no), ((.int .i64 2), .no)], ⟨[b11, b11, b11, b12, b13, b27, b0, b0, b13, b13, b55, b0, b0, b4, b54, b0, b0, b0, b0, b0, b0, b0, b0, b0, b0, b56, b0, b56, b0, b0, b0], [11, 0]⟩, (.ret (v46, .no)), ⟨[b11, b11, b11, b12, b13, b27, b0, b0, b13, b13, b70, b0, b0, b4, b54, b0, b0, b0, b0, b0, b0, b0, b0, b0, b0, b56, b0, b56, b0, b0, b0], [11, 0]⟩⟩
theorem r118 : Ctx.call cx pre (memoExt extT inF tab118 m118.f) 400 m118.f m118.args m118.S = some (m118.out, m118.S') := by kernel_rfl
def tab119 : List Memo := m118 :: tab118
theorem ok119 : ∀ m ∈ tab119, MemoOk cx m := memo_cons hm hname extT_sound ok118 r118
def m119 : Memo := ⟨181, [((.ptr 10 0), .no), ((.int .i64 2), .no)], ⟨[b11, b11, b11, b12, b13, b27, b0, b0, b13, b13, b55, b0, b0, b4, b54, b0, b0, b0, b0, b0, b0, b0, b0, b0, b0, b56, b0, b56, b0, b0], [11, 0]⟩, (.ret (v46, .no)), ⟨[b11, b11, b11, b12, b13, b27, b0, b0, b13, b13, b70, b0, b0, b4, b54, b0, b0, b0, b0, b0, b0, b0, b0, b0, b0, b56, b0, b56, b0, b0], [11, 0]⟩⟩
theorem r119 : Ctx.call cx pre (memoExt extT inF tab119 m119.f) 400 m119.f m119.args m119.S = some (m119.out, m119.S') := by kernel_rfl
def tab120 : List Memo := m119 :: tab119
theorem ok120 : ∀ m ∈ tab120, MemoOk cx m := memo_cons hm hname extT_sound ok119 r119
def m120 : Memo := ⟨127, [((.ptr 10 0), .no), ((.int .i64 2), .no)], ⟨[b11, b11, b11, b12, b13, b27, b0, b0, b13, b13, b55, b0, b0, b4, b54, b0, b0, b0, b0, b0, b0, b0, b0, b0, b0, b56, b0, b56, b0], [11, 0]⟩, (.ret (v46, .no)), ⟨[b11, b11, b11, b12, b13, b27, b0, b0, b13, b13, b70, b0, b0, b4, b54, b0, b0, b0, b0, b0, b0, b0, b0, b0, b0, b56, b0, b56, b0], [11, 0]⟩⟩
theorem r120 : Ctx.call cx pre (memoExt extT inF tab120 m120.f) 400 m120.f m120.args m120.S = some (m120.out, m120.S') := by kernel_rfl
def tab121 : List Memo := m120 :: tab120
theorem ok121 : ∀ m ∈ tab121, MemoOk cx m := memo_cons hm hname extT_sound ok120 r120
def m121 : Memo := ⟨67, [((.ptr 10 0), .no), ((.int .i64 2), .no)], ⟨[b11, b11, b11, b12, b13, b27, b0, b0, b13, b13, b55, b0, b0, b4, b54, b0, b0, b0, b0, b0, b0, b0, b0, b0, b0, b56, b0, b56], [11, 0]⟩, (.ret (v46, .no)), ⟨[b11, b11, b11, b12, b13, b27, b0, b0, b13, b13, b70, b0, b0, b4, b54, b0, b0, b0, b0, b0, b0, b0, b0, b0, b0, b56, b0, b56], [11, 0]⟩⟩
theorem r121 : Ctx.call cx pre (memoExt extT inF tab121 m121.f) 400 m121.f m121.args m121.S = some (m121.out, m121.S') := by kernel_rfl
def tab122 : List Memo := m121 :: tab121
theorem ok122 : ∀ m ∈ tab122, MemoOk cx m := memo_cons hm hname extT_sound ok121 r121
def m122 : Memo := ⟨285, [((.ptr 10 0), .no), ((.int .i64 1), .no)], ⟨[b11, b11, b11, b12, b13, b27, b0, b0, b13, b13, b53, b0, b0, b4, b54, b0, b0, b0, b0, b0, b0, b0, b0, b0, b0, b56], [11, 0]⟩, (.ret (v47, .no)), ⟨[b11, b11, b11, b12, b13, b27, b0, b0, b13, b13, b71, b0, b0, b4, b54, b0, b0, b0, b0, b0, b0, b0, b0, b0, b0, b56], [11, 0]⟩⟩
theorem r122 : Ctx.call cx pre (memoExt extT inF tab122 m122.f) 400 m122.f m122.args m122.S = some (m122.out, m122.S') := by kernel_rfl
def tab123 : List Memo := m122 :: tab122
theorem ok123 : ∀ m ∈ tab123, MemoOk cx m := memo_cons hm hname extT_sound ok122 r122
def m123 : Memo := ⟨281, [((.ptr 10 0), .no), ((.int .i64 1), .no)], ⟨[b11, b11, b11, b12, b13, b27, b0, b0, b13, b13, b53, b0, b0, b4, b54, b0, b0, b0, b0, b0, b0, b0, b0, b0], [11, 0]⟩, (.ret (v47, .no)), ⟨[b11, b11, b11, b12, b13, b27, b0, b0, b13, b13, b71, b0, b0, b4, b54, b0, b0, b0, b0, b0, b0, b0, b0, b0], [11, 0]⟩⟩
theorem r123 : Ctx.call cx pre (memoExt extT inF tab123 m123.f) 400 m123.f m123.args m123.S = some (m123.out, m123.S') := by kernel_rfl
def tab124 : List Memo := m123 :: tab123
theorem ok124 : ∀ m ∈ tab124, MemoOk cx m := memo_cons hm hname extT_sound ok123 r123
def m124 : Memo := ⟨279, [((.ptr 10 0), .no), ((.int .i64 1), .no)], ⟨[b11, b11, b11, b12, b13, b27, b0, b0, b13, b13, b53, b0, b0, b4, b54, b0, b0, b0, b0, b0, b0, b0, b0], [11, 0]⟩, (.ret (v47, .no)), ⟨[b11, b11, b11, b12, b13, b27, b0, b0, b13, b13, b71, b0, b0, b4, b54, b0, b0, b0, b0, b0, b0, b0, b0], [11, 0]⟩⟩
theorem r124 : Ctx.call cx pre (memoExt extT inF tab124 m124.f) 400 m124.f m124.args m124.S = some (m124.out, m124.S') := by kernel_rfl
def tab125 : List Memo := m124 :: tab124
theorem ok125 : ∀ m ∈ tab125, MemoOk cx m := memo_cons hm hname extT_sound ok124 r124
def m125 : Memo := ⟨276, [((.ptr 10 0), .no), ((.int .i64 1), .no)], ⟨[b11, b11, b11, b12, b13, b27, b0, b0, b13, b13, b53, b0, b0, b4, b54, b0, b0, b0, b0, b0, b0, b0], [11, 0]⟩, (.ret (v47, .no)), ⟨[b11, b11, b11, b12, b13, b27, b0, b0, b13, b13, b71, b0, b0, b4, b54, b0, b0, b0, b0, b0, b0, b0], [11, 0]⟩⟩
theorem r125 : Ctx.call cx pre (memoExt extT inF tab125 m125.f) 400 m125.f m125.args m125.S = some (m125.out, m125.S') := by kernel_rfl
def tab126 : List Memo := m125 :: tab125
theorem ok126 : ∀ m ∈ tab126, MemoOk cx m := memo_cons hm hname extT_sound ok125 r125
def m126 : Memo := ⟨269, [((.ptr 10 0), .no), ((.int .i64 1), .no)], ⟨[b11, b11, b11, b12, b13, b27, b0, b0, b13, b13, b53, b0, b0, b4, b54, b0, b0, b0, b0, b0, b0], [11, 0]⟩, (.ret (v47, .no)), ⟨[b11, b11, b11, b12, b13, b27, b0, b0, b13, b13, b71, b0, b0, b4, b54, b0, b0, b0, b0, b0, b0], [11, 0]⟩⟩
theorem r126 : Ctx.call cx pre (memoExt extT inF tab126 m126.f) 400 m126.f m126.args m126.S = some (m126.out, m126.S') := by kernel_rfl
def tab127 : List Memo := m126 :: tab126
theorem ok127 : ∀ m ∈ tab127, MemoOk cx m := memo_cons hm hname extT_sound ok126 r126
def m127 : Memo := ⟨261, [((.ptr 10 0), .no), ((.int .i64 1), .no)], ⟨[b11, b11, b11, b12, b13, b27, b0, b0, b13, b13, b53, b0, b0, b4, b54, b0, b0, b0, b0, b0], [11, 0]⟩, (.ret (v47, .no)), ⟨[b11, b11, b11, b12, b13, b27, b0, b0, b13, b13, b71, b0, b0, b4, b54, b0, b0, b0, b0, b0], [11, 0]⟩⟩
theorem r127 : Ctx.call cx pre (memoExt extT inF tab127 m127.f) 400 m127.f m127.args m127.S = some (m127.out, m127.S') := by kernel_rfl
def tab128 : List Memo := m127 :: tab127
theorem ok128 : ∀ m ∈ tab128, MemoOk cx m := memo_cons hm hname extT_sound ok127 r127
def m128 : Memo := ⟨240, [((.ptr 10 0), .no), ((.int .i64 1), .no)], ⟨[b11, b11, b11, b12, b13, b27, b0, b0, b13, b13, b53, b0, b0, b4, b54, b0, b0, b0, b0], [11, 0]⟩, (.ret (v47, .no)), ⟨[b11, b11, b11, b12, b13, b27, b0, b0, b13, b13, b71, b0, b0, b4, b54, b0, b0, b0, b0], [11, 0]⟩⟩
theorem r128 : Ctx.call cx pre (memoExt extT inF tab128 m128.f) 400 m128.f m128.args m128.S = some (m128.out, m128.S') := by kernel_rfl
def tab129 : List Memo := m128 :: tab128
theorem ok129 : ∀ m ∈ tab129, MemoOk cx m := memo_cons hm hname extT_sound ok128 r128
def m129 : Memo := ⟨215, [((.ptr 10 0), .no), ((.int .i64 1), .no)], ⟨[b11, b11, b11, b12, b13, b27, b0, b0, b13, b13, b53, b0, b0, b4, b54, b0, b0, b0], [11]⟩, (.ret (v47, .no)), ⟨[b11, b11, b11, b12, b13, b27, b0, b0, b13, b13, b71, b0, b0, b4, b54, b0, b0, b0], [11]⟩⟩
theorem r129 : Ctx.call cx pre (memoExt extT inF tab129 m129.f) 400 m129.f m129.args m129.S = some (m129.out, m129.S') := by kernel_rfl
def tab130 : List Memo := m129 :: tab129
theorem ok130 : ∀ m ∈ tab130, MemoOk cx m := memo_cons hm hname extT_sound ok129 r129
def m130 : Memo := ⟨181, [((.ptr 10 0), .no), ((.int .i64 1), .no)], ⟨[b11, b11, b11, b12, b13, b27, b0, b0, b13, b13, b53, b0, b0, b4, b54, b0, b0], [11]⟩, (.ret (v47, .no)), ⟨[b11, b11, b11, b12, b13, b27, b0, b0, b13, b13, b71, b0, b0, b4, b54, b0, b0], [11]⟩⟩
theorem r130 : Ctx.call cx pre (memoExt extT inF tab130 m130.f) 400 m130.f m130.args m130.S = some (m130.out, m130.S') := by kernel_rfl
def tab131 : List Memo := m130 :: tab130
theorem ok131 : ∀ m ∈ tab131, MemoOk cx m := memo_cons hm hname extT_sound ok130 r130
def m131 : Memo := ⟨127, [((.ptr 10 0), .no), ((.int .i64 1), .no)], ⟨[b11, b11, b11, b12, b13, b27, b0, b0, b13, b13, b53, b0, b0, b4, b54, b0], [11]⟩, (.ret (v47, .no)), ⟨[b11, b11, b11, b12, b13, b27, b0, b0, b13, b13, b71, b0, b0, b4, b54, b0], [11]⟩⟩
theorem r131 : Ctx.call cx pre (memoExt extT inF tab131 m131.f) 400 m131.f m131.args m131.S = some (m131.out, m131.S') := by kernel_rfl
def tab132 : List Memo := m131 :: tab131
theorem ok132 : ∀ m ∈ tab132, MemoOk cx m := memo_cons hm hname extT_sound ok131 r131
def m132 : Memo := ⟨67, [((.ptr 10 0), .no), ((.int .i64 1), .no)], ⟨[b11, b11, b11, b12, b13, b27, b0, b0, b13, b13, b53, b0, b0, b4, b54], [11]⟩, (.ret (v47, .no)), ⟨[b11, b11, b11, b12, b13, b27, b0, b0, b13, b13, b71, b0, b0, b4, b54], [11]⟩⟩
theorem r132 : Ctx.call cx pre (memoExt extT inF tab132 m132.f) 400 m132.f m132.args m132.S = some (m132.out, m132.S') := by kernel_rfl
def tab133 : List Memo := m132 :: tab132
theorem ok133 : ∀ m ∈ tab133, MemoOk cx m := memo_cons hm hname extT_sound ok132 r132
def m133 : Memo := ⟨67, [((.ptr 10 0), .no), ((.int .i64 0), .no)], ⟨[b11, b11, b11, b12, b13, b27, b0, b0, b13, b13, b50, b0], [11]⟩, (.ret (v54, .no)), ⟨[b11, b11, b11, b12, b13, b27, b0, b0, b13, b13, b71, b0], [11]⟩⟩
theorem r133 : Ctx.call cx pre (memoExt extT inF tab133 m133.f) 400 m133.f m133.args m133.S = some (m133.out, m133.S') := by kernel_rfl
def tab134 : List Memo := m133 :: tab133
theorem ok134 : ∀ m ∈ tab134, MemoOk cx m := memo_cons hm hname extT_sound ok133 r133
def m134 : Memo := ⟨65, [(v18, .no), ((.fn 66 [] []), .no)], ⟨[b11, b11, b11, b12, b13, b27, b0], []⟩, (.ret ((.tup [v54, (.int .i64 0), (.int .i64 0)]), (.agg [.no, .no, .no]))), ⟨[b11, b11, b11, b12, b13, b27, b0], []⟩⟩
theorem r134 : Ctx.call cx pre (memoExt extT inF tab134 m134.f) 400 m134.f m134.args m134.S = some (m134.out, m134.S') := by kernel_rfl
def tab135 : List Memo := m134 :: tab134
theorem ok135 : ∀ m ∈ tab135, MemoOk cx m := memo_cons hm hname extT_sound ok134 r134
def m135 : Memo := ⟨34, [(v18, .no)], ⟨[b11, b11, b11, b12, b13, b27], []⟩, (.ret ((.tup [v54, (.int .i64 0), (.int .i64 0)]), (.agg [.no, .no, .no]))), ⟨[b11, b11, b11, b12, b13, b27], []⟩⟩
theorem r135 : Ctx.call cx pre (memoExt extT inF tab135 m135.f) 400 m135.f m135.args m135.S = some (m135.out, m135.S') := by kernel_rfl
def tab136 : List Memo := m135 :: tab135
theorem ok136 : ∀ m ∈ tab136, MemoOk cx m := memo_cons hm hname extT_sound ok135 r135
def m136 : Memo := ⟨36, [(v19, (.agg [.no, .no, .no, .no, .no, .no])), (v19, (.agg [.no, .no, .no, .no, .no, .no]))], ⟨[b11, b11, b11, b12, b13, b27, b72, b72, b11, b4, b4], []⟩, (.ret ((.bool true), .no)), ⟨[b11, b11, b11, b12, b13, b27, b72, b72, b11, b4, b4], []⟩⟩
theorem r136 : Ctx.call cx pre (memoExt extT inF tab136 m136.f) 400 m136.f m136.args m136.S = some (m136.out, m136.S') := by kernel_rfl
def tab137 : List Memo := m136 :: tab136
theorem ok137 : ∀ m ∈ tab137, MemoOk cx m := memo_cons hm hname extT_sound ok136 r136
def m137 : Memo := ⟨36, [(v22, (.agg [.no, .no, .no, .no, .no, .no])), (v20, (.agg [.no, .no, .no, .no, .no, .no]))], ⟨[b11, b11, b11, b12, b13, b27, b72, b72, b11, b73, b19, b73, b19, b60, b6], []⟩, (.ret ((.bool true), .no)), ⟨[b11, b11, b11, b12, b13, b27, b72, b72, b11, b73, b19, b73, b19, b60, b6], []⟩⟩
theorem r137 : Ctx.call cx pre (memoExt extT inF tab137 m137.f) 400 m137.f m137.args m137.S = some (m137.out, m137.S') := by kernel_rfl
def tab138 : List Memo := m137 :: tab137
theorem ok138 : ∀ m ∈ tab138, MemoOk cx m := memo_cons hm hname extT_sound ok137 r137
def m138 : Memo := ⟨36, [(v23, (.agg [.no, .no, .no, .no, .no, .no])), (v21, (.agg [.no, .no, .no, .no, .no, .no]))], ⟨[b11, b11, b11, b12, b13, b27, b72, b72, b11, b73, b19, b73, b19, b74, b23, b74, b23, b65, b9], []⟩, (.ret ((.bool true), .no)), ⟨[b11, b11, b11, b12, b13, b27, b72, b72, b11, b73, b19, b73, b19, b74, b23, b74, b23, b65, b9], []⟩⟩
theorem r138 : Ctx.call cx pre (memoExt extT inF tab138 m138.f) 400 m138.f m138.args m138.S = some (m138.out, m138.S') := by kernel_rfl
def tab139 : List Memo := m138 :: tab138
theorem ok139 : ∀ m ∈ tab139, MemoOk cx m := memo_cons hm hname extT_sound ok138 r138
def m139 : Memo := ⟨36, [(v28, (.agg [.no, .no, .no, .no, .no, .no])), (v26, (.agg [.no, .no, .no, .no, .no, .no]))], ⟨[b11, b11, b11, b12, b13, b27, b72, b72, b11, b73, b19, b73, b19, b74, b23, b74, b23, b75, b26], []⟩, (.ret ((.bool true), .no)), ⟨[b11, b11, b11, b12, b13, b27, b72, b72, b11, b73, b19, b73, b19, b74, b23, b74, b23, b75, b26], []⟩⟩
theorem r139 : Ctx.call cx pre (memoExt extT inF tab139 m139.f) 400 m139.f m139.args m139.S = some (m139.out, m139.S') := by kernel_rfl
def tab140 : List Memo := m139 :: tab139
theorem ok140 : ∀ m ∈ tab140, MemoOk cx m := memo_cons hm hname extT_sound ok139 r139
def m140 : Memo := ⟨36, [(v37, (.agg [.no, .no, .no, .no, .no, .no])), (v34, (.agg [.no, .no, .no, .no, .no, .no]))], ⟨[b11, b11, b11, b12, b13, b27, b72, b72, b11, b73, b19, b73, b19, b74, b23], []⟩, (.ret ((.bool true), .no)), ⟨[b11, b11, b11, b12, b13, b27, b72, b72, b11, b73, b19, b73, b19, b74, b23], []⟩⟩
theorem r140 : Ctx.call cx pre (memoExt extT inF tab140 m140.f) 400 m140.f m140.args m140.S = some (m140.out, m140.S') := by kernel_rfl
def tab141 : List Memo := m140 :: tab140
theorem ok141 : ∀ m ∈ tab141, MemoOk cx m := memo_cons hm hname extT_sound ok140 r140
def m141 : Memo := ⟨36, [(v47, (.agg [.no, .no, .no, .no, .no, .no])), (v44, (.agg [.no, .no, .no, .no, .no, .no]))], ⟨[b11, b11, b11, b12, b13, b27, b72, b72, b11, b73, b19], []⟩, (.ret ((.bool true), .no)), ⟨[b11, b11, b11, b12, b13, b27, b72, b72, b11, b73, b19], []⟩⟩
theorem r141 : Ctx.call cx pre (memoExt extT inF tab141 m141.f) 400 m141.f m141.args m141.S = some (m141.out, m141.S') := by kernel_rfl
def tab142 : List Memo := m141 :: tab141
theorem ok142 : ∀ m ∈ tab142, MemoOk cx m := memo_cons hm hname extT_sound ok141 r141
def m142 : Memo := ⟨36, [(v54, (.agg [.no, .no, .no, .no, .no, .no])), (v52, (.agg [.no, .no, .no, .no, .no, .no]))], ⟨[b11, b11, b11, b12, b13, b27, b72], []⟩, (.ret ((.bool true), .no)), ⟨[b11, b11, b11, b12, b13, b27, b72], []⟩⟩
theorem r142 : Ctx.call cx pre (memoExt extT inF tab142 m142.f) 400 m142.f m142.args m142.S = some (m142.out, m142.S') := by kernel_rfl
def tab143 : List Memo := m142 :: tab142
theorem ok143 : ∀ m ∈ tab143, MemoOk cx m := memo_cons hm hname extT_sound ok142 r142
def m143 : Memo := ⟨32, [(v52, (.agg [.no, .no, .no, .no, .no, .no])), ((.fn 33 [] []), .no), ((.fn 34 [] []), .no)], ⟨[b11, b11], []⟩, (.ret ((.tup [v18, (.int .i64 0)]), (.agg [.no, .no]))), ⟨[b11, b11], []⟩⟩
theorem r143 : Ctx.call cx pre (memoExt extT inF tab143 m143.f) 400 m143.f m143.args m143.S = some (m143.out, m143.S') := by kernel_rfl
def tab144 : List Memo := m143 :: tab143
theorem ok144 : ∀ m ∈ tab144, MemoOk cx m := memo_cons hm hname extT_sound ok143 r143
def m144 : Memo := ⟨11, [(v52, (.agg [.no, .no, .no, .no, .no, .no]))], ⟨[b11], []⟩, (.ret ((.tup [v18, (.int .i64 0)]), (.agg [.no, .no]))), ⟨[b11], []⟩⟩
theorem r144 : Ctx.call cx pre (memoExt extT inF tab144 m144.f) 400 m144.f m144.args m144.S = some (m144.out, m144.S') := by kernel_rfl
def tab145 : List Memo := m144 :: tab144
theorem ok145 : ∀ m ∈ tab145, MemoOk cx m := memo_cons hm hname extT_sound ok144 r144
def m145 : Memo := ⟨38, [(v19, (.agg [.no, .no, .no, .no, .no, .no]))], ⟨[b11, b11, b0, b11, b0, b76, b4], []⟩, (.ret (v19, .no)), ⟨[b11, b11, b0, b11, b0, b76, b4], []⟩⟩
theorem r145 : Ctx.call cx pre (memoExt extT inF tab145 m145.f) 400 m145.f m145.args m145.S = some (m145.out, m145.S') := by kernel_rfl
def tab146 : List Memo := m145 :: tab145
theorem ok146 : ∀ m ∈ tab146, MemoOk cx m := memo_cons hm hname extT_sound ok145 r145
def m146 : Memo := ⟨38, [(v20, (.agg [.no, .no, .no, .no, .no, .no]))], ⟨[b11, b11, b0, b11, b0, b77, b19, b19, b0, b78, b6], [1]⟩, (.ret (v24, .no)), ⟨[b11, b11, b0, b11, b0, b77, b19, b19, b0, b78, b6], [1]⟩⟩
theorem r146 : Ctx.call cx pre (memoExt extT inF tab146 m146.f) 400 m146.f m146.args m146.S = some (m146.out, m146.S') := by kernel_rfl
def tab147 : List Memo := m146 :: tab146
theorem ok147 : ∀ m ∈ tab147, MemoOk cx m := memo_cons hm hname extT_sound ok146 r146
def m147 : Memo := ⟨38, [(v21, (.agg [.no, .no, .no, .no, .no, .no]))], ⟨[b11, b11, b0, b11, b0, b77, b19, b19, b0, b79, b23, b23, b0, b80, b9], [1, 1]⟩, (.ret (v25, .no)), ⟨[b11, b11, b0, b11, b0, b77, b19, b19, b0, b79, b23, b23, b0, b80, b9], [1, 1]⟩⟩
theorem r147 : Ctx.call cx pre (memoExt extT inF tab147 m147.f) 400 m147.f m147.args m147.S = some (m147.out, m147.S') := by kernel_rfl
def tab148 : List Memo := m147 :: tab147
theorem ok148 : ∀ m ∈ tab148, MemoOk cx m := memo_cons hm hname extT_sound ok147 r147
def m148 : Memo := ⟨38, [(v26, (.agg [.no, .no, .no, .no, .no, .no]))], ⟨[b11, b11, b0, b11, b0, b77, b19, b19, b0, b79, b23, b23, b0, b81, b26], [1, 1, 1]⟩, (.ret (v27, .no)), ⟨[b11, b11, b0, b11, b0, b77, b19, b19, b0, b79, b23, b23, b0, b81, b26], [1, 1, 1]⟩⟩
theorem r148 : Ctx.call cx pre (memoExt extT inF tab148 m148.f) 400 m148.f m148.args m148.S = some (m148.out, m148.S') := by kernel_rfl
def tab149 : List Memo := m148 :: tab148
theorem ok149 : ∀ m ∈ tab149, MemoOk cx m := memo_cons hm hname extT_sound ok148 r148
def m149 : Memo := ⟨38, [(v34, (.agg [.no, .no, .no, .no, .no, .no]))], ⟨[b11, b11, b0, b11, b0, b77, b19, b19, b0, b79, b23], [1, 1]⟩, (.ret (v35, .no)), ⟨[b11, b11, b0, b11, b0, b77, b19, b19, b0, b79, b23], [1, 1]⟩⟩
theorem r149 : Ctx.call cx pre (memoExt extT inF tab149 m149.f) 400 m149.f m149.args m149.S = some (m149.out, m149.S') := by kernel_rfl
def tab150 : List Memo := m149 :: tab149
theorem ok150 : ∀ m ∈ tab150, MemoOk cx m := memo_cons hm hname extT_sound ok149 r149
def m150 : Memo := ⟨38, [(v44, (.agg [.no, .no, .no, .no, .no, .no]))], ⟨[b11, b11, b0, b11, b0, b77, b19], [1]⟩, (.ret (v45, .no)), ⟨[b11, b11, b0, b11, b0, b77, b19], [1]⟩⟩
theorem r150 : Ctx.call cx pre (memoExt extT inF tab150 m150.f) 400 m150.f m150.args m150.S = some (m150.out, m150.S') := by kernel_rfl
def tab151 : List Memo := m150 :: tab150
theorem ok151 : ∀ m ∈ tab151, MemoOk cx m := memo_cons hm hname extT_sound ok150 r150
def m151 : Memo := ⟨38, [(v52, (.agg [.no, .no, .no, .no, .no, .no]))], ⟨[b11, b11, b0], []⟩, (.ret (v53, .no)), ⟨[b11, b11, b0], []⟩⟩
theorem r151 : Ctx.call cx pre (memoExt extT inF tab151 m151.f) 400 m151.f m151.args m151.S = some (m151.out, m151.S') := by kernel_rfl
def tab152 : List Memo := m151 :: tab151
theorem ok152 : ∀ m ∈ tab152, MemoOk cx m := memo_cons hm hname extT_sound ok151 r151
def m152 : Memo := ⟨15, [(v52, (.agg [.no, .no, .no, .no, .no, .no]))], ⟨[b11], []⟩, (.ret (v53, .no)), ⟨[b11], []⟩⟩
theorem r152 : Ctx.call cx pre (memoExt extT inF tab152 m152.f) 400 m152.f m152.args m152.S = some (m152.out, m152.S') := by kernel_rfl
def tab153 : List Memo := m152 :: tab152
theorem ok153 : ∀ m ∈ tab153, MemoOk cx m := memo_cons hm hname extT_sound ok152 r152
def m153 : Memo := ⟨36, [(v19, (.agg [.no, .no, .no, .no, .no, .no])), (v19, (.agg [.no, .no, .no, .no, .no, .no]))], ⟨[b11, b11, b82, b11, b82, b4, b4], []⟩, (.ret ((.bool true), .no)), ⟨[b11, b11, b82, b11, b82, b4, b4], []⟩⟩
theorem r153 : Ctx.call cx pre (memoExt extT inF tab153 m153.f) 400 m153.f m153.args m153.S = some (m153.out, m153.S') := by kernel_rfl
def tab154 : List Memo := m153 :: tab153
theorem ok154 : ∀ m ∈ tab154, MemoOk cx m := memo_cons hm hname extT_sound ok153 r153
def m154 : Memo := ⟨36, [(v20, (.agg [.no, .no, .no, .no, .no, .no])), (v24, (.agg [.no, .no, .no, .no, .no, .no]))], ⟨[b11, b11, b82, b11, b82, b19, b83, b19, b83, b6, b84], []⟩, (.ret ((.bool true), .no)), ⟨[b11, b11, b82, b11, b82, b19, b83, b19, b83, b6, b84], []⟩⟩
theorem r154 : Ctx.call cx pre (memoExt extT inF tab154 m154.f) 400 m154.f m154.args m154.S = some (m154.out, m154.S') := by kernel_rfl
def tab155 : List Memo := m154 :: tab154
theorem ok155 : ∀ m ∈ tab155, MemoOk cx m := memo_cons hm hname extT_sound ok154 r154
def m155 : Memo := ⟨36, [(v21, (.agg [.no, .no, .no, .no, .no, .no])), (v25, (.agg [.no, .no, .no, .no, .no, .no]))], ⟨[b11, b11, b82, b11, b82, b19, b83, b19, b83, b23, b85, b23, b85, b9, b86], []⟩, (.ret ((.bool true), .no)), ⟨[b11, b11, b82, b11, b82, b19, b83, b19, b83, b23, b85, b23, b85, b9, b86], []⟩⟩
theorem r155 : Ctx.call cx pre (memoExt extT inF tab155 m155.f) 400 m155.f m155.args m155.S = some (m155.out, m155.S') := by kernel_rfl
def tab156 : List Memo := m155 :: tab155
theorem ok156 : ∀ m ∈ tab156, MemoOk cx m := memo_cons hm hname extT_sound ok155 r155
def m156 : Memo := ⟨36, [(v26, (.agg [.no, .no, .no, .no, .no, .no])), (v27, (.agg [.no, .no, .no, .no, .no, .no]))], ⟨[b11, b11, b82, b11, b82, b19, b83, b19, b83, b23, b85, b23, b85, b26, b87], []⟩, (.ret ((.bool true), .no)), ⟨[b11, b11, b82, b11, b82, b19, b83, b19, b83, b23, b85, b23, b85, b26, b87], []⟩⟩
theorem r156 : Ctx.call cx pre (memoExt extT inF tab156 m156.f) 400 m156.f m156.args m156.S = some (m156.out, m156.S') := by kernel_rfl
def tab157 : List Memo := m156 :: tab156
theorem ok157 : ∀ m ∈ tab157, MemoOk cx m := memo_cons hm hname extT_sound ok156 r156
def m157 : Memo := ⟨36, [(v34, (.agg [.no, .no, .no, .no, .no, .no])), (v35, (.agg [.no, .no, .no, .no, .no, .no]))], ⟨[b11, b11, b82, b11, b82, b19, b83, b19, b83, b23, b85], []⟩, (.ret ((.bool true), .no)), ⟨[b11, b11, b82, b11, b82, b19, b83, b19, b83, b23, b85], []⟩⟩
theorem r157 : Ctx.call cx pre (memoExt extT inF tab157 m157.f) 400 m157.f m157.args m157.S = some (m157.out, m157.S') := by kernel_rfl
def tab158 : List Memo := m157 :: tab157
theorem ok158 : ∀ m ∈ tab158, MemoOk cx m := memo_cons hm hname extT_sound ok157 r157
def m158 : Memo := ⟨36, [(v44, (.agg [.no, .no, .no, .no, .no, .no])), (v45, (.agg [.no, .no, .no, .no, .no, .no]))], ⟨[b11, b11, b82, b11, b82, b19, b83], []⟩, (.ret ((.bool true), .no)), ⟨[b11, b11, b82, b11, b82, b19, b83], []⟩⟩
theorem r158 : Ctx.call cx pre (memoExt extT inF tab158 m158.f) 400 m158.f m158.args m158.S = some (m158.out, m158.S') := by kernel_rfl
def tab159 : List Memo := m158 :: tab158
theorem ok159 : ∀ m ∈ tab159, MemoOk cx m := memo_cons hm hname extT_sound ok158 r158
def m159 : Memo := ⟨36, [(v52, (.agg [.no, .no, .no, .no, .no, .no])), (v53, (.agg [.no, .no, .no, .no, .no, .no]))], ⟨[b11, b11, b82], []⟩, (.ret ((.bool true), .no)), ⟨[b11, b11, b82], []⟩⟩
theorem r159 : Ctx.call cx pre (memoExt extT inF tab159 m159.f) 400 m159.f m159.args m159.S = some (m159.out, m159.S') := by kernel_rfl
def tab160 : List Memo := m159 :: tab159
theorem ok160 : ∀ m ∈ tab160, MemoOk cx m := memo_cons hm hname extT_sound ok159 r159
def m160 : Memo := ⟨13, [(v52, (.agg [.no, .no, .no, .no, .no, .no])), (v53, .no)], ⟨[b11], []⟩, (.ret ((.bool true), .no)), ⟨[b11], []⟩⟩
theorem r160 : Ctx.call cx pre (memoExt extT inF tab160 m160.f) 400 m160.f m160.args m160.S = some (m160.out, m160.S') := by kernel_rfl
def tab161 : List Memo := m160 :: tab160
theorem ok161 : ∀ m ∈ tab161, MemoOk cx m := memo_cons hm hname extT_sound ok160 r160
theorem run10 : Ctx.call cx pre (memoExt extT inF tab161 10) 400 10 [] ⟨[], []⟩ = some (.ret (.bool true, .no), ⟨[], []⟩) := by kernel_rfl
theorem sound10 : SpecSound cx 10 Go.Ab.specTrue := specTrue_sound (memo_calls hm hname extT_sound ok161 10 400) run10
end Go.Proofs.YtdiphholophdcabGreatDoor.T
end
section
open Go Go.Ab
namespace Go.Proofs.YtdiphholophdcabGreatDoor.T
theorem fns_ok : FnsOk cx.P [(4, d4), (9, d9), (13, d13), (14, d14), (15, d15), (16, d16), (30, d30), (36, d36), (37, d37), (38, d38), (74, d74), (75, d75)] :=
  .cons Tryz.func4 rfl (
  .cons Tryz.func9 rfl (
  .cons Tryz.func13 rfl (
  .cons Tryz.func14 rfl (
  .cons Tryz.func15 rfl (
  .cons Tryz.func16 rfl (
  .cons Tryz.func30 rfl (
  .cons Tryz.func36 rfl (
  .cons Tryz.func37 rfl (
  .cons Tryz.func38 rfl (
  .cons Tryz.func74 rfl (
  .cons Tryz.func75 rfl (
  .nil))))))))))))
theorem exts_ok : ExtsOk cx [(10, specTrue), (76, specClone)] :=
  .cons sound10 (.cons sound76 (.nil))
theorem fits : lay.Fits := ⟨hm, hname, fun _ _ h => fns_ok.mem (fnsL_mem h), fun _ _ h => exts_ok.mem (extL_mem h)⟩
end Go.Proofs.YtdiphholophdcabGreatDoor.T
end
section
/- THE PLAIN WRAP WITH BOTH: what the row lists, and the world's shape. -/
namespace Go.Ab
open Go.RowKit
variable {H : Type} {enc : TypeId × Value → H}
theorem returnsInHanded_and_shaped {a : Assume} {C : Checked} {os : Os} {f : FuncId} {fn : Func} {s : ChangeSpec} {conds : List PathCond} {apart fresh handsOn again : Bool} {X : World → Array Value → Prop}
    (hX : ∀ (w w' : World) (args : Array Value), w.heap = w'.heap → X w args → X w' args)
    (own : ownKnob C.prog.godebug = none) (started : os.Started) (noInit : C.prog.inits.idxOf? f = none) (hfn : C.prog.funcs[f]? = some fn)
    (witness : ∃ (w : World) (tape : Tape) (i : Input), w.os = os ∧ (w.forCall tape i).Shaped C.prog ∧ i.vars = [] ∧ Input.okWide C.prog (w.forCall tape i) .any w.heap.size f i ∧
      ((s.pre enc C.prog fn conds apart (w.forCall tape i).memory i.args ∧ X (w.forCall tape i).memory i.args) ∧ sizedMet enc C.prog fn (OpenSpec.ofChange s) apart (w.forCall tape i).memory i.args) ∧ a.holds C.prog (lone (Frame.enter C.prog f i.args .normal) [] (w.forCall tape i)))
    (contract : ∀ (W : World) (base : Nat) (args : Array Value) (ds gs : List (DataW H)) (before : List MemPlace),
      (∀ (j : Nat) t v, fn.params[j]? = some t → args[j]? = some v → Value.okWide C.prog W .any base t v) →
      DataW.Whole enc C.prog fn.params.toList s.vars apart W args.toList ds gs before →
      conds.all (PathCond.test C.prog ⟨fn.params.toList, ds, s.plain.varTypes C.prog, gs⟩) = true →
      (DataW.weightsEach C.prog (fn.params.toList ++ s.plain.varTypes C.prog) (ds ++ gs)).all (· ≤ reachBytes) = true → X W args → W.ShapedOpen C.prog →
      a.holds C.prog (lone (Frame.enter C.prog f args .normal) [] W) →
      Calls C.prog f args W fun e W' => ∃ v, e = .returned v ∧ s.post enc C.prog fn apart fresh handsOn again W args v W') :
    ReturnsInHanded a C os f .any (fun w args => (s.pre enc C.prog fn conds apart w args ∧ X w args) ∧ sizedMet enc C.prog fn (OpenSpec.ofChange s) apart w args) (s.post enc C.prog fn apart fresh handsOn again) := by
  refine returnsInHanded_of_calls own started noInit witness ?_
  intro w tape i _ hsh _ hok hpre hholds
  obtain ⟨_, _, _, fn', hfn', _, _, _, _, hval⟩ := hok
  have e : fn' = fn := Option.some.inj (hfn'.symm.trans hfn)
  subst e
  obtain ⟨⟨⟨ds, gs, before, hw, hc⟩, hx⟩, hz⟩ := hpre
  have hw' := DataW.Whole.of_heap (w' := w.forCall tape i) (by rfl) hw
  refine (contract (w.forCall tape i) w.heap.size i.args ds gs before hval hw' hc (hz.weights hw) (hX _ _ _ (by rfl) hx) hsh hholds).mono fun e W' ⟨v, he, hp⟩ => ?_
  subst he
  exact ChangeSpec.post_blind hp
/-- a variable's row, whose type and size the world's shape tells -/
theorem tyOf_global {P : Program} {W : World} {g : Nat} {t : TypeId} {zero : Array Value} (h : W.ShapedOpen P) (hg : g < P.globals.size)
    (h0 : ((begin P (fun _ _ => 0) default).world.heap[g]?).bind Obj.row? = some (zero, t)) : ∃ t', tyOf W g = some (t', zero.size) := by
  obtain ⟨cs, hh, hs, hr⟩ := h.1 g zero t hg h0
  exact ⟨t, by simp [tyOf, hh, hs]⟩
end Go.Ab
end
