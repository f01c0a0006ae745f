import Derived.Test.YtdiphholophdcaaDoorXAbT5
import Derived.Lib.IndexMore
import Derived.Lib.Fields
import Derived.Lib.LaidTab
import Derived.Shelf.Strings.Search3
import Derived.Shelf.Strings.Fields
import Derived.KernelRfl
import Derived.Test.YtdiphholophdcaaDoorProg
import Derived.Lib.Walk
import Derived.WalkKit
import Derived.ProofKit
import Derived.SizedLaws
import Derived.LaidMore
import Derived.Shelf.Vars
set_option linter.all false
section
/- CONTRACTS OF THE LIBRARY's FUNCTIONS, AS THE RUN OF A CALL AND AS TREES. -/
namespace Go.Ab
open Go.RowKit

/-- a function's run, given from outside -/
abbrev ExtFn := List SV → St → Option (COut × St)
/-- it is the machine's -/
def ExtSound (c : Ctx) (f : FuncId) (g : ExtFn) : Prop := ∀ args S out S', g args S = some (out, S') → Steps1 S.H.length S S' ∧
  ∀ (B : Bd) (w0 : World) (G : Gh) (w : World) (vs : Array Value), Inv c B w0 G S w → RArgs G S.T args vs → CallTo c.P f vs w fun en w' => ∃ G', Inv c B w0 G' S' w' ∧ Grows G S.T G' S'.T ∧ OutR G' S'.T out en

section
variable {c : Ctx} {B : Bd} {w0 : World} {G : Gh} {S : St} {w : World}
theorem args_one {T : List Nat} {x : SV} {vs : Array Value} (h : RArgs G T [x] vs) : ∃ v, vs = #[v] ∧ RS G T x v := by
  obtain ⟨hl, hr⟩ := h
  refine ⟨vs[0]'(by rw [← hl]; simp), ?_, hr 0 (by simp) (by rw [← hl]; simp)⟩
  apply Array.ext
  · exact hl.symm
  · intro i h1 h2
    have : i = 0 := by simpa using h2
    subst this; rfl
theorem args_two {T : List Nat} {x y : SV} {vs : Array Value} (h : RArgs G T [x, y] vs) : ∃ v u, vs = #[v, u] ∧ RS G T x v ∧ RS G T y u := by
  obtain ⟨hl, hr⟩ := h
  refine ⟨vs[0]'(by rw [← hl]; simp), vs[1]'(by rw [← hl]; simp), ?_, hr 0 (by simp) (by rw [← hl]; simp), hr 1 (by simp) (by rw [← hl]; simp)⟩
  apply Array.ext
  · exact hl.symm
  · intro i h1 h2
    have h3 : i < 2 := by simpa using h2
    match i, h3 with
    | 0, _ => rfl
    | 1, _ => rfl
theorem args_three {T : List Nat} {x y z : SV} {vs : Array Value} (h : RArgs G T [x, y, z] vs) : ∃ v u t, vs = #[v, u, t] ∧ RS G T x v ∧ RS G T y u ∧ RS G T z t := by
  obtain ⟨hl, hr⟩ := h
  refine ⟨vs[0]'(by rw [← hl]; simp), vs[1]'(by rw [← hl]; simp), vs[2]'(by rw [← hl]; simp), ?_, hr 0 (by simp) (by rw [← hl]; simp), hr 1 (by simp) (by rw [← hl]; simp), hr 2 (by simp) (by rw [← hl]; simp)⟩
  apply Array.ext
  · exact hl.symm
  · intro i h1 h2
    have h3 : i < 3 := by simpa using h2
    match i, h3 with
    | 0, _ => rfl
    | 1, _ => rfl
    | 2, _ => rfl
theorem list_set_same {α : Type} {l : List α} {i : Nat} {x : α} (h : l[i]? = some x) : l.set i x = l := by
  apply List.ext_getElem?
  intro j
  rw [List.getElem?_set]
  split
  · rename_i e
    subst e
    split
    · exact h.symm
    · rename_i hl
      rw [List.getElem?_eq_none (by omega)]
  · rfl
/-- (*strings.Builder).copyCheck -/
def extCopyCheck (tB : TypeId) : ExtFn := fun args S => match args with
  | [(.ptr b 0, .no)] => match S.H[b]? with
    | some ((.bself t b', .no) :: _) => match Nat.beq t tB && Nat.beq b' b with
      | true => some (.ret (.tup [], .no), S)
      | false => none
    | _ => none
  | _ => none
theorem extCopyCheck_sound {f : FuncId} {tB : TypeId}
    (enter : ∀ vs w, (callFunc f vs).run c.P w = .ok (.enter f vs) w)
    (fresh : ∀ (b : Nat) (w : World), w.cell? ⟨b, 0, none⟩ = some (.pointer none) → w.shape? b = some (tB, 2) → w.frozen? ⟨b, 0, none⟩ = false →
      Calls c.P f #[.pointer (some ⟨b, 0, none⟩)] w fun e w' => e = .returned (.tuple #[]) ∧ w' = w.setCell ⟨b, 0, none⟩ (.pointer (some ⟨b, 0, none⟩)))
    (used : ∀ (b : Nat) (w : World), w.cell? ⟨b, 0, none⟩ = some (.pointer (some ⟨b, 0, none⟩)) →
      Calls c.P f #[.pointer (some ⟨b, 0, none⟩)] w fun e w' => e = .returned (.tuple #[]) ∧ w' = w) : ExtSound c f (extCopyCheck tB) := by
  intro args S out S' h
  unfold extCopyCheck at h
  split at h
  · rename_i b
    split at h
    · rename_i t b' rest hb
      split at h
      · rename_i e
        simp only [Bool.and_eq_true, Nat.beq_eq] at e
        obtain ⟨rfl, rfl⟩ := e
        cases h
        refine ⟨.refl _ _, fun B w0 G w vs inv ha => ?_⟩
        obtain ⟨v0, rfl, h0⟩ := args_one ha
        have h1 := h0.1
        cases h1 with
        | ptr _ _ d hφ =>
          obtain ⟨hB, us, tt, fr, hu, hus, hfr, hR⟩ := inv.blk b' d _ hb hφ
          have h0us : 0 < us.size := by simp at hus; omega
          have hc0 := hR 0 (by simp) h0us
          have hb0 := hc0.1
          simp only [List.getElem_cons_zero] at hb0
          have hty : G.ty d = some (t, 2) := by
            generalize us[0]'h0us = v1 at hb0
            cases hb0 with
            | bself0 _ _ d' h1 h2 => rw [hφ] at h1; cases h1; exact h2
            | bself _ _ d' h1 h2 => rw [hφ] at h1; cases h1; exact h2
          obtain ⟨us', fr', q1, q2, _⟩ := inv.ty d t 2 hty
          rw [hu] at q1
          cases q1
          have hcell : w.cell? ⟨d, 0, none⟩ = some (us[0]'h0us) := by rw [cell_of_heap hu, Array.getElem?_eq_getElem h0us]
          refine .inl ⟨enter _ _, ?_⟩
          generalize hv1 : us[0]'h0us = v1 at hb0 hcell
          cases hb0 with
          | bself0 =>
            refine (fresh d w hcell (by simp [World.shape?, hu, q2]) (frozen_of hu (hfr 0 (by simp)))).mono ?_
            rintro e w' ⟨rfl, rfl⟩
            have hw := setCells_spec d t fr [.pointer (some ⟨d, 0, none⟩)] 0 w us hu
            have e1 : w.setCells d 0 [.pointer (some ⟨d, 0, none⟩)] = w.setCell ⟨d, 0, none⟩ (.pointer (some ⟨d, 0, none⟩)) := rfl
            rw [e1] at hw
            refine ⟨G, ?_, .refl _ _, RS.no (.tup [] #[] rfl (fun i h => absurd h (by simp)))⟩
            have := inv.blkSet (b := b') (cells' := (.bself t b', .no) :: rest) hb hφ hu hw (putRow_size _ _ _) rfl (inv.low b' _ hb) (inv.tag b' _ hb) (fun i h h' => by
              have e2 := putRow_get us 0 #[.pointer (some ⟨d, 0, none⟩)] i
              rw [Array.getElem?_eq_getElem h'] at e2
              match i, h, h', e2 with
              | 0, h, h', e2 =>
                rw [if_pos (by simp; omega)] at e2
                have e3 := Option.some.inj e2
                rw [e3]
                exact RS.no (.bself t b' d hφ hty)
              | i + 1, h, h', e2 =>
                have hi : i + 1 < us.size := by simp only [List.length_cons] at hus h; omega
                rw [if_neg (by simp), Array.getElem?_eq_getElem hi] at e2
                rw [Option.some.inj e2]
                exact hR (i + 1) h hi)
            rwa [list_set_same hb] at this
          | bself _ _ d' h1 h2 =>
            rw [hφ] at h1
            cases h1
            refine (used d w hcell).mono ?_
            rintro e w' ⟨rfl, rfl⟩
            exact ⟨G, inv, .refl _ _, RS.no (.tup [] #[] rfl (fun i h => absurd h (by simp)))⟩
      · cases h
    · cases h
  · cases h
/-- internal/bytealg.IndexByteString -/
def extIndexByteString : ExtFn := fun args S => match args with
  | [(.str s, .no), (.int .u8 c, .no)] => some (.ret (.int .i64 (Lib.indexByte s c.toNat.toUInt8), .no), S)
  | _ => none
theorem extIndexByteString_sound {f : FuncId} {fn : Func} (hf : c.P.funcs[f]? = some fn) (hname : (fn.name == "runtime.NumGoroutine") = false) (hb : fn.body.isNone = true) (hn : Extern.findNext fn = none)
    (he : Extern.find fn = some Extern.BytealgIndexByte.indexByte) : ExtSound c f extIndexByteString := by
  intro args S out S' h
  unfold extIndexByteString at h
  split at h
  · rename_i s n
    cases h
    refine ⟨.refl _ _, fun B w0 G w vs inv ha => ?_⟩
    obtain ⟨v0, v1, rfl, h0, h1⟩ := args_two ha
    have h0 := h0.1
    have h1 := h1.1
    cases h0
    cases h1
    refine .inr ⟨.int .i64 (Lib.indexByte s n.toNat.toUInt8), w, ?_, G, inv, .refl _ _, RS.no (.int _ _)⟩
    rw [run_callFunc_extern hf hname hb hn he, Lib.run_indexByteString]
    rfl
  · cases h
/-- strings.Contains -/
def extContains : ExtFn := fun args S => match args with
  | [(.str s, .no), (.str t, .no)] => match Nat.blt s.length 4294967281 with
    | true => some (.ret (.bool (Lib.contains s t), .no), S)
    | false => none
  | _ => none
theorem extContains_sound {f : FuncId} {g : Nat} (enter : ∀ vs w, (callFunc f vs).run c.P w = .ok (.enter f vs) w) (hk : ∀ I ty, c.know I ty → ∃ m, I g 0 = some (.int .i64 m))
    (hC : ∀ (s sub : ByteArray) (m : Int) (w : World), s.size < 4294967281 → w.cell? ⟨g, 0, none⟩ = some (.int .i64 m) →
      Calls c.P f #[.string s, .string sub] w fun e w' => e = .returned (.bool (Lib.contains s.data.toList sub.data.toList)) ∧ w' = w) : ExtSound c f extContains := by
  intro args S out S' h
  unfold extContains at h
  split at h
  · rename_i s t
    split at h
    · rename_i hl
      cases h
      refine ⟨.refl _ _, fun B w0 G w vs inv ha => .inl ⟨enter _ _, ?_⟩⟩
      obtain ⟨v0, v1, rfl, h0, h1⟩ := args_two ha
      have h0 := h0.1
      have h1 := h1.1
      cases h0
      cases h1
      obtain ⟨m, hm⟩ := hk _ _ (inv.know G.I G.ty (fun _ _ _ h => h) (fun _ _ h => h))
      refine (hC ⟨⟨s⟩⟩ ⟨⟨t⟩⟩ m w (by rw [Nat.blt_eq] at hl; exact hl) (inv.imm _ _ _ hm).1).mono ?_
      rintro e w' ⟨rfl, rfl⟩
      exact ⟨G, inv, .refl _ _, RS.no (.bool _)⟩
    · cases h
  · cases h
/-- strings.Fields -/
def extFields : ExtFn := fun args S => match args with
  | [(.str s, .no)] => match Nat.blt s.length 4294967281 && s.all fun b => Nat.blt b.toNat 128 with
    | true => some (.ret (.sl ((Lib.fields s).map AV.str), .no), S)
    | false => none
  | _ => none
theorem fl_strs : ∀ (l : List (List UInt8)), fl (l.map AV.str) = l.map AV.str
  | [] => rfl
  | x :: l => by
    show (AV.str x).cells ++ fl (l.map AV.str) = _
    rw [fl_strs l]; rfl
theorem extFields_sound {f : FuncId} {g : Nat} {te : TypeId} {name : String} {zs : List Int} (enter : ∀ vs w, (callFunc f vs).run c.P w = .ok (.enter f vs) w)
    (hk : ∀ I ty, c.know I ty → (∃ t, ty g = some (t, zs.length)) ∧ ∀ i : Nat, i < zs.length → I g i = some (.int .u8 (zs.getD i 0))) (hg : c.P.globalNamed name = some g)
    (hC : ∀ (s : ByteArray) (w : World), s.size < 4294967281 → (∀ (j : Nat) b, s.data.toList[j]? = some b → b.toNat < 128) → Lib.TabIs c.P w name .u8 zs → Calls c.P f #[.string s] w fun e w' =>
      e = .returned (.slice (some ⟨w.heap.size, 0, none⟩) (Lib.fields s.data.toList).length (Lib.fields s.data.toList).length) ∧ w' = w.alloc (.cells ((Lib.fields s.data.toList).map fun l => Value.string ⟨l.toArray⟩).toArray te)) :
    ExtSound c f extFields := by
  intro args S out S' h
  unfold extFields at h
  split at h
  · rename_i s
    split at h
    · rename_i hl
      cases h
      simp only [Bool.and_eq_true, Nat.blt_eq, List.all_eq_true] at hl
      obtain ⟨hl, ha8⟩ := hl
      refine ⟨.refl _ _, fun B w0 G w vs inv ha => .inl ⟨enter _ _, ?_⟩⟩
      obtain ⟨v0, rfl, h0⟩ := args_one ha
      have h0 := h0.1
      cases h0
      obtain ⟨⟨t, ht⟩, hm⟩ := hk _ _ (inv.know G.I G.ty (fun _ _ _ h => h) (fun _ _ h => h))
      have htab : Lib.TabIs c.P w name .u8 zs := by
        obtain ⟨us, fr, h1, h2, _⟩ := inv.ty g t _ ht
        unfold Lib.TabIs World.var?
        rw [hg]
        simp only [Option.bind_some, h1]
        congr 1
        apply Array.ext
        · simp [h2]
        · intro i hi hi'
          have hi2 : i < zs.length := by omega
          have h3 := (inv.imm _ _ _ (hm i hi2)).1
          rw [cell_of_heap h1, Array.getElem?_eq_getElem hi] at h3
          rw [Option.some.inj h3]
          simp [List.getD, List.getElem?_eq_getElem hi2]
      refine (hC ⟨⟨s⟩⟩ w hl (fun j b hb => ha8 b (List.mem_of_getElem? hb)) htab).mono ?_
      rintro e w' ⟨rfl, rfl⟩
      have hrow := inv.newRow ((Lib.fields s).map fun l => Value.string ⟨l.toArray⟩).toArray te (Lib.fields s).length (fun i => .string ⟨((Lib.fields s).getD i []).toArray⟩) (fun i hi => by
        simp [List.getElem?_eq_getElem hi, List.getD])
      refine ⟨_, hrow, grows_row inv _ _ _, RS.no ?_⟩
      have hlen : ((Lib.fields s).map AV.str).length = (Lib.fields s).length := by simp
      rw [show (Lib.fields (⟨⟨s⟩⟩ : ByteArray).data.toList).length = ((Lib.fields s).map AV.str).length by simp]
      refine .sl 1 _ _ 0 _ (fun i => .string ⟨((Lib.fields s).getD i []).toArray⟩) ?_ (Nat.le_refl _) ?_ ?_ ?_
      · intro x hx
        obtain ⟨l, _, rfl⟩ := List.mem_map.1 hx
        rfl
      · intro i hi
        rw [fl_strs, hlen] at hi
        simp [Gh.row, hi]
      · intro i hi
        have hi2 := hi
        rw [fl_strs, hlen] at hi2
        have e : (fl ((Lib.fields s).map AV.str))[i] = AV.str ((Lib.fields s).getD i []) := by
          simp [fl_strs, List.getD, List.getElem?_eq_getElem hi2]
        rw [e]
        exact .str _
      · intro i hi; rfl
    · cases h
  · cases h
/-- the run of a call where nothing of the state is reached, as a contract -/
theorem ext_of_spec {f : FuncId} {sp : Go.Ab.Spec} {g : ExtFn} (h : ExtSound c f g) (hg : ∀ args S o, (sp.res args S).is o → g args S = some o) : SpecSound c f sp := fun args S p hp B w0 G w vs inv ha => (h args S p.1 p.2 (hg args S p hp)).2 B w0 G w vs inv ha
end
end Go.Ab
end
section
/-
  DERIVED: THE SHELF's CONTRACTS AT THIS DUMP, IN PLAIN WORDS (tools/lay-plain.mjs out of 'TrydShelf.lean', which tools/lay-shelf.mjs wrote): THE SAME DECLARATIONS UNDER THE SAME NAMES: 'import', 'namespace', 'open', 'def', 'theorem' AND NOTHING ELSE: no command of the shelf's: FOR A HAND-IN. Each laying: the table of numbers ('.._ren') and one theorem, a field a fact of the dump's own or the kernel's comparison; each contract: ONE APPLICATION.
-/
namespace Go.Proofs
open Go.Shelf
def Tryd.lays144_ren : Go.Shelf.Ren := ⟨fun | 144 => 65 | 143 => 83 | 219 => 97 | 217 => 78 | 225 => 104 | 224 => 105 | 267 => 106 | 266 => 93 | 314 => 116 | n => n, fun | 9 => 9 | 4 => 4 | 3 => 3 | 5 => 5 | 46 => 99 | 146 => 136 | 51 => 112 | n => n, fun | 1 => 1 | n => n⟩
theorem Tryd.lays144 : Go.Proofs.Lays.n144 Tryd.prog Tryd.lays144_ren := {
  mixed := by kernel_rfl
  f143 := Tryd.func83.trans (congrArg some (by kernel_rfl))
  f144 := Tryd.func65.trans (congrArg some (by kernel_rfl))
  f217 := Tryd.func78.trans (congrArg some (by kernel_rfl))
  f219 := Tryd.func97.trans (congrArg some (by kernel_rfl))
  f224 := Tryd.func105.trans (congrArg some (by kernel_rfl))
  f225 := Tryd.func104.trans (congrArg some (by kernel_rfl))
  f266 := Tryd.func93.trans (congrArg some (by kernel_rfl))
  f267 := Tryd.func106.trans (congrArg some (by kernel_rfl))
  f314 := Tryd.func116.trans (congrArg some (by kernel_rfl))
  t3 := Tryd.underlying3
  a3 := Tryd.isAgg3
  z3 := Tryd.sizeOf3
  v3 := Tryd.zeroValue3
  t4 := Tryd.underlying4
  a4 := Tryd.isAgg4
  z4 := Tryd.sizeOf4
  v4 := Tryd.zeroValue4
  t5 := Tryd.underlying5
  a5 := Tryd.isAgg5
  z5 := Tryd.sizeOf5
  v5 := Tryd.zeroValue5
  t9 := Tryd.underlying9
  a9 := Tryd.isAgg9
  z9 := Tryd.sizeOf9
  v9 := Tryd.zeroValue9
  t46 := Tryd.underlying99
  a46 := Tryd.isAgg99
  z46 := Tryd.sizeOf99
  v46 := Tryd.zeroValue99
  t51 := Tryd.underlying112
  a51 := Tryd.isAgg112
  z51 := Tryd.sizeOf112
  v51 := Tryd.zeroValue112
  t146 := Tryd.underlying136
  a146 := Tryd.isAgg136
  z146 := Tryd.sizeOf136
  v146 := Tryd.zeroValue136
  g1 := by kernel_rfl }
open Go.RowKit Go.Lib in
/-- strings.Contains: "Contains reports whether substr is within s.": IT RETURNS 'Lib.contains s substr'; the world is as it was. (LAID: no walk: one application.) -/
theorem Tryd.strings_Contains (s sub : ByteArray) (m : Int) (w : World) (hs : s.size < 4294967281) (hm : w.cell? ⟨1, 0, none⟩ = some (.int .i64 m)) :
    Calls Tryd.prog 65 #[.string s, .string sub] w fun e w' => e = .returned (.bool (Lib.contains s.data.toList sub.data.toList)) ∧ w' = w := Any.strings_Contains Tryd.lays144 s sub m w hs hm
def Tryd.lays157_ren : Go.Shelf.Ren := ⟨fun | 157 => 82 | 229 => 95 | 199 => 96 | 261 => 103 | 311 => 114 | 312 => 115 | n => n, fun | 9 => 9 | 31 => 53 | 3 => 3 | 5 => 5 | 4 => 4 | 119 => 103 | 0 => 0 | 40 => 105 | 152 => 109 | 21 => 21 | 154 => 111 | 51 => 112 | 141 => 114 | 196 => 128 | 193 => 125 | 198 => 131 | 49 => 129 | 194 => 126 | 201 => 134 | 226 => 150 | 46 => 99 | 227 => 151 | n => n, fun | 0 => 0 | 6 => 2 | n => n⟩
theorem Tryd.lays157 : Go.Proofs.Lays.n157 Tryd.prog Tryd.lays157_ren := {
  mixed := by kernel_rfl
  f157 := Tryd.func82.trans (congrArg some (by kernel_rfl))
  f199 := Tryd.func96.trans (congrArg some (by kernel_rfl))
  f229 := Tryd.func95.trans (congrArg some (by kernel_rfl))
  f261 := Tryd.func103.trans (congrArg some (by kernel_rfl))
  f311 := Tryd.func114.trans (congrArg some (by kernel_rfl))
  f312 := Tryd.func115.trans (congrArg some (by kernel_rfl))
  t0 := Tryd.underlying0
  a0 := Tryd.isAgg0
  z0 := Tryd.sizeOf0
  v0 := Tryd.zeroValue0
  t3 := Tryd.underlying3
  a3 := Tryd.isAgg3
  z3 := Tryd.sizeOf3
  v3 := Tryd.zeroValue3
  t4 := Tryd.underlying4
  a4 := Tryd.isAgg4
  z4 := Tryd.sizeOf4
  v4 := Tryd.zeroValue4
  t5 := Tryd.underlying5
  a5 := Tryd.isAgg5
  z5 := Tryd.sizeOf5
  v5 := Tryd.zeroValue5
  t9 := Tryd.underlying9
  a9 := Tryd.isAgg9
  z9 := Tryd.sizeOf9
  v9 := Tryd.zeroValue9
  t21 := Tryd.underlying21
  a21 := Tryd.isAgg21
  z21 := Tryd.sizeOf21
  v21 := Tryd.zeroValue21
  t31 := Tryd.underlying53
  a31 := Tryd.isAgg53
  z31 := Tryd.sizeOf53
  v31 := Tryd.zeroValue53
  t40 := Tryd.underlying105
  a40 := Tryd.isAgg105
  z40 := Tryd.sizeOf105
  v40 := Tryd.zeroValue105
  t46 := Tryd.underlying99
  a46 := Tryd.isAgg99
  z46 := Tryd.sizeOf99
  v46 := Tryd.zeroValue99
  t49 := Tryd.underlying129
  a49 := Tryd.isAgg129
  z49 := Tryd.sizeOf129
  v49 := Tryd.zeroValue129
  t51 := Tryd.underlying112
  a51 := Tryd.isAgg112
  z51 := Tryd.sizeOf112
  v51 := Tryd.zeroValue112
  t119 := Tryd.underlying103
  a119 := Tryd.isAgg103
  z119 := Tryd.sizeOf103
  t141 := Tryd.underlying114
  a141 := Tryd.isAgg114
  z141 := Tryd.sizeOf114
  v141 := Tryd.zeroValue114
  t152 := Tryd.underlying109
  a152 := Tryd.isAgg109
  z152 := Tryd.sizeOf109
  v152 := Tryd.zeroValue109
  t154 := Tryd.underlying111
  a154 := Tryd.isAgg111
  z154 := Tryd.sizeOf111
  v154 := Tryd.zeroValue111
  t193 := Tryd.underlying125
  a193 := Tryd.isAgg125
  z193 := Tryd.sizeOf125
  v193 := Tryd.zeroValue125
  t194 := Tryd.underlying126
  a194 := Tryd.isAgg126
  z194 := Tryd.sizeOf126
  v194 := Tryd.zeroValue126
  t196 := Tryd.underlying128
  a196 := Tryd.isAgg128
  z196 := Tryd.sizeOf128
  v196 := Tryd.zeroValue128
  t198 := Tryd.underlying131
  a198 := Tryd.isAgg131
  z198 := Tryd.sizeOf131
  v198 := Tryd.zeroValue131
  t201 := Tryd.underlying134
  a201 := Tryd.isAgg134
  z201 := Tryd.sizeOf134
  v201 := Tryd.zeroValue134
  t226 := Tryd.underlying150
  a226 := Tryd.isAgg150
  z226 := Tryd.sizeOf150
  v226 := Tryd.zeroValue150
  t227 := Tryd.underlying151
  a227 := Tryd.isAgg151
  z227 := Tryd.sizeOf151
  v227 := Tryd.zeroValue151
  g0 := by kernel_rfl
  g6 := by kernel_rfl }
open Go.RowKit Go.Lib in
/-- strings.Fields, the table by 'Lib.TabIs' (as strings.TrimSpace's contract). 'hg': the table's number, by its name: at a dump 'by kernel_rfl'. (LAID: no walk: one application.) -/
theorem Tryd.strings_Fields (s : ByteArray) (w : World) (hs : s.size < 4294967281) (hascii : ∀ (j : Nat) b, s.data.toList[j]? = some b → b.toNat < 128) (htab : Lib.TabIs Tryd.prog w "strings.asciiSpace" .u8 Lib.asciiSpaceTab) :
    Calls Tryd.prog 82 #[.string s] w fun e w' =>
      e = .returned (.slice (some ⟨w.heap.size, 0, none⟩) (Lib.fields s.data.toList).length (Lib.fields s.data.toList).length) ∧ w' = w.alloc (.cells ((Lib.fields s.data.toList).map fun l => Value.string ⟨l.toArray⟩).toArray 9) := Any.strings_Fields Tryd.lays157 (by kernel_rfl) (by kernel_rfl) s w hs hascii htab
end Go.Proofs
end
section
open Go Go.Ab
namespace Go.Proofs.YtdiphholophdcaaDoor.T
set_option maxHeartbeats 1000000 in
set_option maxRecDepth 100000 in
theorem copyCheck_used (b : Nat) (w : World) (h0 : w.cell? ⟨b, 0, none⟩ = some (.pointer (some ⟨b, 0, none⟩))) :
    Calls Tryd.prog 66 #[.pointer (some ⟨b, 0, none⟩)] w fun e w' => e = .returned (.tuple #[]) ∧ w' = w := by
  have sz : (Tryd.prog.info? 59).map (·.size) = some 2 := by kernel_rfl
  obtain ⟨j, hj, _⟩ := Option.map_eq_some_iff.1 sz
  go_enter Tryd.func66, Tryd.ntmps66
  go_wp2
  rw [Lib.run_neq_ptr_same w _ (by kernel_rfl : Tryd.prog.underlying 56 = some (.pointer 59)) hj]
  go_wp2
  go_end0
  exact ⟨rfl, rfl⟩

set_option maxHeartbeats 1000000 in
set_option maxRecDepth 100000 in
theorem copyCheck_fresh (b : Nat) (w : World) (h0 : w.cell? ⟨b, 0, none⟩ = some (.pointer none)) (hsh : w.shape? b = some (59, 2)) (hfz : w.frozen? ⟨b, 0, none⟩ = false) :
    Calls Tryd.prog 66 #[.pointer (some ⟨b, 0, none⟩)] w fun e w' => e = .returned (.tuple #[]) ∧ w' = w.setCell ⟨b, 0, none⟩ (.pointer (some ⟨b, 0, none⟩)) := by
  have sz : (Tryd.prog.info? 59).map (·.size) = some 2 := by kernel_rfl
  have lies : liesAt Tryd.prog Tryd.prog.depth 59 (2 / Tryd.prog.cellsOf 59) 0 59 1 = true := by kernel_rfl
  obtain ⟨j, hj, hjs⟩ := Option.map_eq_some_iff.1 sz
  have u56 : Tryd.prog.underlying 56 = some (.pointer 59) := by kernel_rfl
  have u92 : Tryd.prog.underlying 92 = some .unsafePointer := by kernel_rfl
  go_enter Tryd.func66, Tryd.ntmps66
  go_wp2
  rw [Lib.run_to_unsafe w ⟨b, 0, none⟩ u56 u92 hj (by rw [hjs]; decide) hsh (Nat.zero_lt_succ 1)]
  simp only [Result.andThen]
  rw [Oper.upon_value]
  go_wp2
  rw [run_callFunc_extern Tryd.func84 (by kernel_rfl) (by kernel_rfl) (by kernel_rfl) (e := Extern.AbiNoEscape.same) (by kernel_rfl)]
  rw [Lib.run_noEscape]
  simp only [Result.andThen]
  rw [Oper.upon_value]
  go_wp2
  rw [Lib.run_from_unsafe w ⟨b, 0, none⟩ u92 u56 hj hsh lies]
  simp only [Result.andThen]
  rw [Oper.upon_value]
  go_wp2
  go_end0
  exact ⟨rfl, rfl⟩
theorem enter66 (vs : Array Value) (w : World) : (callFunc 66 vs).run cx.P w = .ok (.enter 66 vs) w := enter_run Tryd.func66 (hname 66 _ Tryd.func66) (k := bodyOf Tryd.f66) rfl vs w
theorem sound66 : SpecSound cx 66 (specCopyCheck 59 5) := copyCheck_sound enter66 copyCheck_fresh copyCheck_used
theorem ext66 : ExtSound cx 66 (extCopyCheck 59) := extCopyCheck_sound enter66 copyCheck_fresh copyCheck_used
theorem sound93 : SpecSound cx 93 specIndexByteString := indexByteString_sound Tryd.func93 (hname 93 _ Tryd.func93) (by kernel_rfl) (by kernel_rfl) (by kernel_rfl)
theorem ext93 : ExtSound cx 93 extIndexByteString := extIndexByteString_sound Tryd.func93 (hname 93 _ Tryd.func93) (by kernel_rfl) (by kernel_rfl) (by kernel_rfl)
theorem ext65 : ExtSound cx 65 extContains := extContains_sound (g := 1) (fun vs w => enter_run Tryd.func65 (hname 65 _ Tryd.func65) (k := bodyOf Tryd.f65) rfl vs w) (fun _ _ h => h.1) fun s sub m w hs hm => Tryd.strings_Contains s sub m w hs hm
theorem ext82 : ExtSound cx 82 extFields := extFields_sound (g := 0) (name := "strings.asciiSpace") (zs := Lib.asciiSpaceTab) (fun vs w => enter_run Tryd.func82 (hname 82 _ Tryd.func82) (k := bodyOf Tryd.f82) rfl vs w) (fun _ _ h => h.2) (by kernel_rfl) fun s w hs ha ht => Tryd.strings_Fields s w hs ha ht
theorem sound65 : SpecSound cx 65 specContains := ext_of_spec ext65 fun args S o h => by
  unfold specContains at h
  simp only at h
  split at h
  · have h2 := h.2 _ rfl
    cases h2
    have h1 : Nat.blt _ 4294967281 = true := Nat.blt_eq.mpr h.1
    simp only [extContains, h1]
  · exact h.elim
theorem sound82 : SpecSound cx 82 specFields := ext_of_spec ext82 fun args S o h => by
  unfold specFields at h
  simp only at h
  split at h
  · have h2 := h.2 _ rfl
    cases h2
    have h1 : Nat.blt _ 4294967281 = true := Nat.blt_eq.mpr h.1.1
    have h3 : (List.all _ fun b : UInt8 => Nat.blt b.toNat 128) = true := List.all_eq_true.2 fun b hb => Nat.blt_eq.mpr (h.1.2 b hb)
    simp only [extFields, h1, h3, Bool.and_self]
  · exact h.elim
/-- the functions that the run is given -/
def extT : FuncId → Option ExtFn
  | 65 => some extContains
  | 66 => some (extCopyCheck 59)
  | 82 => some extFields
  | 93 => some extIndexByteString
  | _ => none
theorem extT_sound : ∀ f g, extT f = some g → ExtSound cx f g := by
  intro f g h
  unfold extT at h
  split at h
  · cases h; exact ext65
  · cases h; exact ext66
  · cases h; exact ext82
  · cases h; exact ext93
  · cases h
theorem runs (n : Nat) : CallSound cx (Ctx.call cx pre extT n) := run_sound hm hname extT_sound n
end Go.Proofs.YtdiphholophdcaaDoor.T
end
section
open Go Go.Ab
namespace Go.Proofs.YtdiphholophdcaaDoor.T
set_option maxRecDepth 100000
theorem run10 : Ctx.call cx pre extT 300 10 [] ⟨[], []⟩ = some (.ret (.bool true, .no), ⟨[], []⟩) := by kernel_rfl
theorem sound10 : SpecSound cx 10 Go.Ab.specTrue := specTrue_sound (runs 300) run10
end Go.Proofs.YtdiphholophdcaaDoor.T
end
section
open Go Go.Ab
namespace Go.Proofs.YtdiphholophdcaaDoor.T
theorem fns_ok : FnsOk cx.P [(3, d3), (5, d5), (9, d9), (17, d17), (18, d18), (32, d32), (33, d33), (34, d34), (35, d35), (37, d37), (38, d38), (39, d39), (42, d42), (43, d43), (44, d44), (54, d54), (55, d55), (56, d56), (57, d57), (58, d58), (59, d59), (60, d60), (61, d61), (62, d62), (63, d63), (64, d64), (78, d78), (79, d79), (80, d80), (81, d81), (94, d94)] :=
  .cons Tryd.func3 rfl (
  .cons Tryd.func5 rfl (
  .cons Tryd.func9 rfl (
  .cons Tryd.func17 rfl (
  .cons Tryd.func18 rfl (
  .cons Tryd.func32 rfl (
  .cons Tryd.func33 rfl (
  .cons Tryd.func34 rfl (
  .cons Tryd.func35 rfl (
  .cons Tryd.func37 rfl (
  .cons Tryd.func38 rfl (
  .cons Tryd.func39 rfl (
  .cons Tryd.func42 rfl (
  .cons Tryd.func43 rfl (
  .cons Tryd.func44 rfl (
  .cons Tryd.func54 rfl (
  .cons Tryd.func55 rfl (
  .cons Tryd.func56 rfl (
  .cons Tryd.func57 rfl (
  .cons Tryd.func58 rfl (
  .cons Tryd.func59 rfl (
  .cons Tryd.func60 rfl (
  .cons Tryd.func61 rfl (
  .cons Tryd.func62 rfl (
  .cons Tryd.func63 rfl (
  .cons Tryd.func64 rfl (
  .cons Tryd.func78 rfl (
  .cons Tryd.func79 rfl (
  .cons Tryd.func80 rfl (
  .cons Tryd.func81 rfl (
  .cons Tryd.func94 rfl (
  .nil)))))))))))))))))))))))))))))))
theorem exts_ok : ExtsOk cx [(10, specTrue), (65, specContains), (66, specCopyCheck 59 5), (82, specFields), (93, specIndexByteString)] :=
  .cons sound10 (.cons sound65 (.cons sound66 (.cons sound82 (.cons sound93 (.nil)))))
theorem fits : lay.Fits := ⟨hm, hname, fun _ _ h => fns_ok.mem (fnsL_mem h), fun _ _ h => exts_ok.mem (extL_mem h)⟩
end Go.Proofs.YtdiphholophdcaaDoor.T
end
section
/- THE PLAIN WRAP WITH BOTH: what the row lists, and the world's shape. -/
namespace Go.Ab
open Go.RowKit
variable {H : Type} {enc : TypeId × Value → H}
theorem returnsInHanded_and_shaped {a : Assume} {C : Checked} {os : Os} {f : FuncId} {fn : Func} {s : ChangeSpec} {conds : List PathCond} {apart fresh handsOn again : Bool} {X : World → Array Value → Prop}
    (hX : ∀ (w w' : World) (args : Array Value), w.heap = w'.heap → X w args → X w' args)
    (own : ownKnob C.prog.godebug = none) (started : os.Started) (noInit : C.prog.inits.idxOf? f = none) (hfn : C.prog.funcs[f]? = some fn)
    (witness : ∃ (w : World) (tape : Tape) (i : Input), w.os = os ∧ (w.forCall tape i).Shaped C.prog ∧ i.vars = [] ∧ Input.okWide C.prog (w.forCall tape i) .any w.heap.size f i ∧
      ((s.pre enc C.prog fn conds apart (w.forCall tape i).memory i.args ∧ X (w.forCall tape i).memory i.args) ∧ sizedMet enc C.prog fn (OpenSpec.ofChange s) apart (w.forCall tape i).memory i.args) ∧ a.holds C.prog (lone (Frame.enter C.prog f i.args .normal) [] (w.forCall tape i)))
    (contract : ∀ (W : World) (base : Nat) (args : Array Value) (ds gs : List (DataW H)) (before : List MemPlace),
      (∀ (j : Nat) t v, fn.params[j]? = some t → args[j]? = some v → Value.okWide C.prog W .any base t v) →
      DataW.Whole enc C.prog fn.params.toList s.vars apart W args.toList ds gs before →
      conds.all (PathCond.test C.prog ⟨fn.params.toList, ds, s.plain.varTypes C.prog, gs⟩) = true →
      (DataW.weightsEach C.prog (fn.params.toList ++ s.plain.varTypes C.prog) (ds ++ gs)).all (· ≤ reachBytes) = true → X W args → W.ShapedOpen C.prog →
      a.holds C.prog (lone (Frame.enter C.prog f args .normal) [] W) →
      Calls C.prog f args W fun e W' => ∃ v, e = .returned v ∧ s.post enc C.prog fn apart fresh handsOn again W args v W') :
    ReturnsInHanded a C os f .any (fun w args => (s.pre enc C.prog fn conds apart w args ∧ X w args) ∧ sizedMet enc C.prog fn (OpenSpec.ofChange s) apart w args) (s.post enc C.prog fn apart fresh handsOn again) := by
  refine returnsInHanded_of_calls own started noInit witness ?_
  intro w tape i _ hsh _ hok hpre hholds
  obtain ⟨_, _, _, fn', hfn', _, _, _, _, hval⟩ := hok
  have e : fn' = fn := Option.some.inj (hfn'.symm.trans hfn)
  subst e
  obtain ⟨⟨⟨ds, gs, before, hw, hc⟩, hx⟩, hz⟩ := hpre
  have hw' := DataW.Whole.of_heap (w' := w.forCall tape i) (by rfl) hw
  refine (contract (w.forCall tape i) w.heap.size i.args ds gs before hval hw' hc (hz.weights hw) (hX _ _ _ (by rfl) hx) hsh hholds).mono fun e W' ⟨v, he, hp⟩ => ?_
  subst he
  exact ChangeSpec.post_blind hp
/-- a variable's row, whose type and size the world's shape tells -/
theorem tyOf_global {P : Program} {W : World} {g : Nat} {t : TypeId} {zero : Array Value} (h : W.ShapedOpen P) (hg : g < P.globals.size)
    (h0 : ((begin P (fun _ _ => 0) default).world.heap[g]?).bind Obj.row? = some (zero, t)) : ∃ t', tyOf W g = some (t', zero.size) := by
  obtain ⟨cs, hh, hs, hr⟩ := h.1 g zero t hg h0
  exact ⟨t, by simp [tyOf, hh, hs]⟩
end Go.Ab
end
