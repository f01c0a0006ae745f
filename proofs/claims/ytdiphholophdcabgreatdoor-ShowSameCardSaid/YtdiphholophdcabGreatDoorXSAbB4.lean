import Derived.Test.YtdiphholophdcabGreatDoorXSAbT4
import Derived.Laws.AppendOwn
import Derived.OpenShut
import Derived.ShutString
set_option linter.all false
section
/- A ROW THAT THE LIBRARY MADE; slices.Clone OF TEXTS. -/
namespace Go.Ab
open Go.RowKit
section
variable {c : Ctx} {B : Bd} {w0 : World} {G : Gh} {S : St} {w w' : World}
/-- the first n cells of a block that a call made stay as they are -/
def Gh.adopt (G : Gh) (d n : Nat) (f : Nat → Value) : Gh := { G with I := fun d' o => if d' = d ∧ o < n then some (f o) else G.I d' o }
theorem mono_adopt (inv : Inv c B w0 G S w) {d : Nat} (hd : w.heap.size ≤ d) (n : Nat) (f : Nat → Value) : Mono G (G.adopt d n f) := by
  refine ⟨fun _ _ h => h, fun d' o v h => ?_, fun _ _ h => h⟩
  have := lt_of_cell (inv.imm d' o v h).1
  simp only [Gh.adopt]
  rw [if_neg (by omega)]
  exact h
theorem grows_adopt (inv : Inv c B w0 G S w) {d : Nat} (hd : w.heap.size ≤ d) (n : Nat) (f : Nat → Value) : Grows G S.T (G.adopt d n f) S.T :=
  ⟨mono_adopt inv hd n f, fun _ _ => rfl, fun _ k h => ⟨k, h, Nat.le_refl k, fun _ => rfl⟩⟩
theorem Inv.adopt (inv : Inv c B w0 G S w) (h : Below w.heap.size w w') {d n : Nat} {f : Nat → Value} (hd : w.heap.size ≤ d) (hc : ∀ i, i < n → w'.cell? ⟨d, i, none⟩ = some (f i)) : Inv c B w0 (G.adopt d n f) S w' :=
  have old {k : Nat} {x : Obj} (hk : w.heap[k]? = some x) : w'.heap[k]? = some x := by
    rw [h.block k (lt_of_heap hk)]; exact hk
  have mo := mono_adopt inv hd n f
  { below := inv.below.trans ⟨h.os, h.tape, h.output, h.size, fun k hk => h.block k (by
      rcases Nat.lt_or_ge k w.heap.size with hl | hl
      · exact hl
      · exact absurd hk (inv.base k hl))⟩
    base := fun d hd => inv.base d (Nat.le_trans h.size hd)
    iD := fun d' o hB => by
      have : d' ≠ d := fun e => inv.base d' (by omega) hB
      show (if d' = d ∧ o < n then some (f o) else G.I d' o) = _
      rw [if_neg (fun h => this h.1)]
      exact inv.iD d' o hB
    lenφ := inv.lenφ
    lenO := inv.lenO
    inj := inv.inj
    low := inv.low
    tag := inv.tag
    blk := fun b d' cells h1 h2 => by
      obtain ⟨hB, vs, t, fr, hv, h3, h4, h5⟩ := inv.blk b d' cells h1 h2
      exact ⟨hB, vs, t, fr, old hv, h3, h4, fun i hi hi' => (h5 i hi hi').grow mo rfl⟩
    imm := fun d' o v hi => by
      simp only [Gh.adopt] at hi
      split at hi
      · rename_i e
        obtain ⟨rfl, ho⟩ := e
        cases hi
        exact ⟨hc o ho, fun b hb => by have := (inv.φ_lt hb).1; omega⟩
      · obtain ⟨h1, h2⟩ := inv.imm d' o v hi
        exact ⟨by rw [h.cell (p := ⟨d', o, none⟩) (lt_of_cell h1)]; exact h1, h2⟩
    own := fun id ow ho => by
      obtain ⟨h1, h2, h3⟩ := inv.own id ow ho
      refine ⟨h1, h2, fun hl => ?_⟩
      obtain ⟨d', o, e1, e2, e3, vs, t, fr, e4, e5, e6⟩ := h3 hl
      have := lt_of_heap e4
      refine ⟨d', o, e1, e2, e3, vs, t, fr, old e4, e5, fun i hi => ⟨(e6 i hi).1, ?_⟩⟩
      simp only [Gh.adopt]
      rw [if_neg (by omega)]
      exact (e6 i hi).2
    dis := inv.dis
    ty := fun d' t m ht => by
      obtain ⟨vs, fr, h1, h2⟩ := inv.ty d' t m ht
      exact ⟨vs, fr, old h1, h2⟩
    glob := fun g cs hg => ⟨(inv.glob g cs hg).1.mono mo, (inv.glob g cs hg).2⟩
    know := fun I ty h1 h2 => inv.know I ty (fun d o v x => h1 d o v (mo.I d o v x)) (fun d x e => h2 d x (mo.ty d x e)) }
/-- slices.Clone at texts -/
def extClone : ExtFn := fun args S => match args with
  | [(.sl xs, _)] => match allStr xs && Nat.ble xs.length 8796093022208 with
    | true => some (.ret (.sl xs, .no), S)
    | false => none
  | _ => none
theorem extClone_sound {f : FuncId} {t9 : TypeId} (enter : ∀ vs w, (callFunc f vs).run c.P w = .ok (.enter f vs) w)
    (hnil : ∀ (n k : Nat) (w : World), Calls c.P f #[.slice none n k] w fun e w' => e = .returned (.slice none 0 0) ∧ w' = w)
    (hzero : ∀ (a : Addr) (k : Nat) (w : World), Calls c.P f #[.slice (some a) 0 k] w fun e w' => ∃ v', e = .returned v' ∧ w'.ownsRow w.heap.size t9 1 v' 0 [] ∧ v' ≠ .slice none 0 0 ∧ Below w.heap.size w w')
    (hsome : ∀ (b off n k : Nat) (zs : List ByteArray) (w : World), n ≤ zs.length → n * 16 ≤ 140737488355328 → (∀ j, j < zs.length → w.cell? ⟨b, off + j, none⟩ = some (.string (zs.getD j ByteArray.empty))) →
      Calls c.P f #[.slice (some ⟨b, off, none⟩) n k] w fun e w' => ∃ v', e = .returned v' ∧ w'.ownsRow w.heap.size t9 1 v' n ((zs.take n).map (Value.string)) ∧ v' ≠ .slice none 0 0 ∧ Below w.heap.size w w') : ExtSound c f extClone := by
  intro args S out S' h
  unfold extClone at h
  split at h
  · rename_i xs tg
    split at h
    · rename_i e
      simp only [Bool.and_eq_true, Nat.ble_eq] at e
      obtain ⟨e1, e2⟩ := e
      cases h
      refine ⟨.refl _ _, fun B w0 G w vs inv ha => ?_⟩
      obtain ⟨v0, rfl, h0⟩ := args_one ha
      have h0 := h0.1
      refine .inl ⟨enter _ _, ?_⟩
      have hx := allStr_eq e1
      generalize hl : toStrs xs = l at hx
      have fin : ∀ (v' : Value) (w' : World), l = [] ∨ True → w'.ownsRow w.heap.size t9 1 v' l.length (l.map fun s => Value.string ⟨⟨s⟩⟩) → v' ≠ .slice none 0 0 → Below w.heap.size w w' →
          ∃ G', Inv c B w0 G' S w' ∧ Grows G S.T G' S.T ∧ OutR G' S.T (.ret (.sl (l.map AV.str), .no)) (.returned v') := by
        intro v' w' _ ho hne hb
        obtain ⟨_, ⟨rfl, _⟩ | ⟨g, cap, cur, rfl, hg, hh, hcap, _, hsz, htk⟩⟩ := ho
        · exact (hne rfl).elim
        refine ⟨G.adopt g l.length (fun i => .string ⟨⟨l.getD i []⟩⟩), inv.adopt hb hg (fun i hi => ?_), grows_adopt inv hg _ _, RS.no ?_⟩
        · have h1 : cur.toList.take (l.length * 1) = l.map fun s => Value.string ⟨⟨s⟩⟩ := htk
          have hi2 : i < cur.size := by omega
          have h2 : (cur.toList.take (l.length * 1))[i]? = cur[i]? := by
            rw [List.getElem?_take_of_lt (by omega)]; simp
          rw [cell_of_heap hh, ← h2, h1]
          simp [hi, List.getD, List.getElem?_eq_getElem hi]
        · have hlen : (l.map AV.str).length = l.length := by simp
          have e3 : Value.slice (some ⟨g, 0, none⟩) l.length cap = .slice (some ⟨g, 0, none⟩) (l.map AV.str).length cap := by rw [hlen]
          rw [e3]
          refine .sl 1 _ _ 0 _ (fun i => .string ⟨⟨l.getD i []⟩⟩) ?_ (by omega) ?_ ?_ ?_
          · intro x hx
            obtain ⟨s, _, rfl⟩ := List.mem_map.1 hx
            rfl
          · intro i hi
            rw [fl_strs, hlen] at hi
            simp [Gh.adopt, hi]
          · intro i hi
            have hi2 := hi
            rw [fl_strs, hlen] at hi2
            have e : (fl (l.map AV.str))[i] = AV.str (l.getD i []) := by
              simp [fl_strs, List.getD, List.getElem?_eq_getElem hi2]
            rw [e]
            exact .str _
          · intro i hi; rfl
      cases h0 with
      | nils b =>
        have hl0 : l = [] := by
          cases l with
          | nil => rfl
          | cons a l => cases hx
        subst hl0
        cases b with
        | none =>
          refine (hnil 0 0 w).mono ?_
          rintro e w' ⟨rfl, rfl⟩
          exact ⟨G, inv, .refl _ _, RS.no (.nils none)⟩
        | some a =>
          refine (hzero a 0 w).mono ?_
          rintro e w' ⟨v', rfl, ho, hne, hb⟩
          exact fin v' w' (.inr trivial) ho hne hb
      | sl sz _ d o cap fv hs hc hi hr h1c =>
        subst hx
        have hfl := fl_strs l
        by_cases hz : l = []
        · subst hz
          refine (hzero ⟨d, o, none⟩ cap w).mono ?_
          rintro e w' ⟨v', rfl, ho, hne, hb⟩
          exact fin v' w' (.inr trivial) ho hne hb
        · have hcell : ∀ j, j < (l.map fun s => (⟨⟨s⟩⟩ : ByteArray)).length → w.cell? ⟨d, o + j, Option.none⟩ = some (.string ((l.map fun s => (⟨⟨s⟩⟩ : ByteArray)).getD j ByteArray.empty)) := by
            intro j hj
            have hjl : j < l.length := by simpa using hj
            have hlt : j < (fl (l.map AV.str)).length := by rw [hfl]; simpa using hjl
            have q1 := (inv.imm _ _ _ (hi j hlt)).1
            have q2 := hr j hlt
            have q3 : (fl (l.map AV.str))[j] = AV.str l[j] := by simp [hfl]
            rw [q3] at q2
            rw [q1]
            generalize fv j = u at q2
            cases q2
            simp [List.getD, hjl]
          have key := hsome d o l.length cap (l.map fun s => (⟨⟨s⟩⟩ : ByteArray)) w (by simp) (by simp at e2; omega) hcell
          rw [List.length_map]
          refine key.mono ?_
          rintro e w' ⟨v', rfl, ho, hne, hb⟩
          refine fin v' w' (.inr trivial) ?_ hne hb
          have et : (List.take l.length (l.map fun s => (⟨⟨s⟩⟩ : ByteArray))).map Value.string = l.map fun s => Value.string ⟨⟨s⟩⟩ := by
            rw [List.take_of_length_le (by simp), List.map_map]; rfl
          rw [et] at ho
          exact ho
    · cases h
  · cases h
/-- the same, as a tree -/
def specClone : Go.Ab.Spec := ⟨KT.no, fun args S => match args with
  | [(.sl xs, _)] => .need (allStr xs = true ∧ xs.length ≤ 8796093022208) (.ret (.sl xs, .no) S)
  | _ => .fail⟩
theorem specClone_sound {f : FuncId} (h : ExtSound c f extClone) : SpecSound c f specClone := ext_of_spec h fun args S o h => by
  unfold specClone at h
  simp only at h
  split at h
  · obtain ⟨⟨h1, h3⟩, h2⟩ := h
    have h2 : o = _ := h2
    subst h2
    simp only [extClone, h1, Nat.ble_eq.mpr h3, Bool.and_self]
  · exact h.elim
end
end Go.Ab
end
section
open Go Go.Ab
namespace Go.Proofs.YtdiphholophdcabGreatDoor.T
end Go.Proofs.YtdiphholophdcabGreatDoor.T
end
section
set_option maxRecDepth 20000
open Go Go.Ab
namespace Go.Proofs.YtdiphholophdcabGreatDoor.T
noncomputable def c4_0 : Cut := ⟨[], 0, 0, [], ⟨spr 31 0 [(0, .agg [.int .i64, .str, .int .i64, .int .i64, .sl, .sl] .no), (1, .agg [.int .i64, .str, .int .i64, .int .i64, .sl, .sl] .no)], [], [], []⟩⟩
noncomputable def o4x0 : OSh := ⟨.rets [.c .bool .no], [], []⟩
noncomputable def d4 : FnD := ⟨Tryz.f4, bodyOf Tryz.f4, .no, .plain, [c4_0], [o4x0]⟩
noncomputable def c9_0 : Cut := ⟨[], 0, 0, [], ⟨spr 6 0 [(0, .agg [.int .i64, .str, .int .i64, .int .i64, .sl, .sl] .no)], [], [], []⟩⟩
noncomputable def o9x0 : OSh := ⟨.rets [.c .bool .no], [], []⟩
noncomputable def d9 : FnD := ⟨Tryz.f9, bodyOf Tryz.f9, .no, .plain, [c9_0], [o9x0]⟩
noncomputable def c13_0 : Cut := ⟨[], 0, 0, [], ⟨spr 8 0 [(0, .agg [.int .i64, .str, .int .i64, .int .i64, .sl, .sl] .no), (1, .agg [.int .i64, .str, .int .i64, .int .i64, .sl, .sl] .no)], [], [], []⟩⟩
noncomputable def o13x0 : OSh := ⟨.rets [.c .bool .no], [], []⟩
noncomputable def d13 : FnD := ⟨Tryz.f13, bodyOf Tryz.f13, .no, .plain, [c13_0], [o13x0]⟩
noncomputable def c14_0 : Cut := ⟨[], 0, 0, [], ⟨spr 74 0 [(0, .agg [.int .i64, .str, .int .i64, .int .i64, .sl, .sl] .no), (1, .agg [.int .i64, .str, .int .i64, .int .i64, .sl, .sl] .no), (2, .c .bool .no)], [], [], []⟩⟩
noncomputable def c14_1 : Cut := ⟨[0, 1, 0, 1, 1], 0, 0, [], ⟨spr 74 0 [(2, .c .bool .no), (3, .c (.fix (.ptr 0 0)) .no), (4, .c (.fix (.ptr 1 0)) .no), (7, .c (.int .i64) .no), (53, .c .bool .no)], [], [.cells [.c (.int .i64) .no, .c .str .no, .c (.int .i64) .no, .c (.int .i64) .no, .c .sl .no, .c .sl .no], .cells [.c (.int .i64) .no, .c .str .no, .c (.int .i64) .no, .c (.int .i64) .no, .c .sl .no, .c .sl .no]], []⟩⟩
noncomputable def o14x0 : OSh := ⟨.rets [.c .bool .no], [], []⟩
noncomputable def d14 : FnD := ⟨Tryz.f14, bodyOf Tryz.f14, .no, .plain, [c14_0, c14_1], [o14x0]⟩
noncomputable def c15_0 : Cut := ⟨[], 0, 0, [], ⟨spr 5 0 [(0, .agg [.int .i64, .str, .int .i64, .int .i64, .sl, .sl] .no)], [], [], []⟩⟩
noncomputable def o15x0 : OSh := ⟨.rets [.agg [.int .i64, .str, .int .i64, .int .i64, .sl, .sl] .no], [], []⟩
noncomputable def d15 : FnD := ⟨Tryz.f15, bodyOf Tryz.f15, .no, .plain, [c15_0], [o15x0]⟩
noncomputable def c16_0 : Cut := ⟨[], 0, 0, [], ⟨spr 37 0 [(0, .agg [.int .i64, .str, .int .i64, .int .i64, .sl, .sl] .no)], [], [], []⟩⟩
noncomputable def c16_1 : Cut := ⟨[0, 1, 0, 1, 1], 0, 0, [], ⟨spr 37 0 [(1, .c (.fix (.ptr 0 0)) .no), (2, .c (.fix (.ptr 1 0)) .no), (3, .c (.fix (.ptr 2 0)) .no), (4, .c (.int .i64) .no)], [], [.cells [.c (.int .i64) .no, .c .str .no, .c (.int .i64) .no, .c (.int .i64) .no, .c .sl .no, .c .sl .no], .cells [.c (.int .i64) .no, .c .str .no, .c (.int .i64) .no, .c (.int .i64) .no, .c .sl .full, .c .sl .full], .cells [.c (.int .i64) .no, .c .str .no, .c (.int .i64) .no, .c (.int .i64) .no, .c .sl .full, .c .sl .full]], []⟩⟩
noncomputable def c16_2 : Cut := ⟨[0, 1, 0, 1, 1], 0, 0, [], ⟨spr 37 0 [(1, .c (.fix (.ptr 0 0)) .no), (2, .c (.fix (.ptr 1 0)) .no), (3, .c (.fix (.ptr 2 0)) .no), (4, .c (.int .i64) .no)], [], [.cells [.c (.int .i64) .no, .c .str .no, .c (.int .i64) .no, .c (.int .i64) .no, .c .sl .no, .c .sl .no], .cells [.c (.int .i64) .no, .c .str .no, .c (.int .i64) .no, .c (.int .i64) .no, .c .sl .full, .c .sl .full], .cells [.c (.int .i64) .no, .c .str .no, .c (.int .i64) .no, .c (.int .i64) .no, .c .sl .full, .c .sl (.tok 0)]], [.len 18]⟩⟩
noncomputable def c16_3 : Cut := ⟨[0, 1, 0, 1, 1], 0, 0, [], ⟨spr 37 0 [(1, .c (.fix (.ptr 0 0)) .no), (2, .c (.fix (.ptr 1 0)) .no), (3, .c (.fix (.ptr 2 0)) .no), (4, .c (.int .i64) .no), (21, .c .bool .no)], [], [.cells [.c (.int .i64) .no, .c .str .no, .c (.int .i64) .no, .c (.int .i64) .no, .c .sl .no, .c .sl .no], .cells [.c (.int .i64) .no, .c .str .no, .c (.int .i64) .no, .c (.int .i64) .no, .c .sl .full, .c .sl .full], .cells [.c (.int .i64) .no, .c .str .no, .c (.int .i64) .no, .c (.int .i64) .no, .c .sl (.tok 0), .c .sl .full], .cells [.c (.int .i64) .no, .c .str .no, .c (.int .i64) .no, .c (.int .i64) .no, .c .sl .no, .c .sl .no]], [.len 18]⟩⟩
noncomputable def c16_4 : Cut := ⟨[0, 1, 0, 1, 1], 0, 0, [], ⟨spr 37 0 [(1, .c (.fix (.ptr 0 0)) .no), (2, .c (.fix (.ptr 1 0)) .no), (3, .c (.fix (.ptr 2 0)) .no), (4, .c (.int .i64) .no), (21, .c .bool .no)], [], [.cells [.c (.int .i64) .no, .c .str .no, .c (.int .i64) .no, .c (.int .i64) .no, .c .sl .no, .c .sl .no], .cells [.c (.int .i64) .no, .c .str .no, .c (.int .i64) .no, .c (.int .i64) .no, .c .sl .full, .c .sl .full], .cells [.c (.int .i64) .no, .c .str .no, .c (.int .i64) .no, .c (.int .i64) .no, .c .sl (.tok 1), .c .sl (.tok 0)], .cells [.c (.int .i64) .no, .c .str .no, .c (.int .i64) .no, .c (.int .i64) .no, .c .sl .no, .c .sl .no]], [.len 19, .len 18]⟩⟩
noncomputable def o16x0 : OSh := ⟨.rets [.agg [.int .i64, .str, .int .i64, .int .i64, .sl, .sl] .no], [], []⟩
noncomputable def d16 : FnD := ⟨Tryz.f16, bodyOf Tryz.f16, .no, .plain, [c16_0, c16_1, c16_2, c16_3, c16_4], [o16x0]⟩
noncomputable def c30_0 : Cut := ⟨[], 0, 0, [], ⟨spr 41 0 [(0, .agg [.int .i64, .str, .int .i64, .int .i64, .sl, .sl] .no), (1, .c (.int .i64) .no), (2, .c (.int .i64) .no)], [], [], []⟩⟩
noncomputable def c30_1 : Cut := ⟨[0, 1, 0, 1, 1, 1], 0, 0, [], ⟨spr 41 0 [(1, .c (.int .i64) .no), (2, .c (.int .i64) .no), (3, .c (.fix (.ptr 0 0)) .no), (7, .c (.int .i64) .no), (8, .c (.int .i64) .no), (14, .c .bool .no)], [], [.cells [.c (.int .i64) .no, .c .str .no, .c (.int .i64) .no, .c (.int .i64) .no, .c .sl .no, .c .sl .no]], []⟩⟩
noncomputable def o30x0 : OSh := ⟨.rets [.c (.int .i64) .no], [], []⟩
noncomputable def d30 : FnD := ⟨Tryz.f30, bodyOf Tryz.f30, .no, .plain, [c30_0, c30_1], [o30x0]⟩
noncomputable def c36_0 : Cut := ⟨[], 0, 0, [], ⟨spr 38 0 [(0, .agg [.int .i64, .str, .int .i64, .int .i64, .sl, .sl] .no), (1, .agg [.int .i64, .str, .int .i64, .int .i64, .sl, .sl] .no)], [], [], []⟩⟩
noncomputable def o36x0 : OSh := ⟨.rets [.c .bool .no], [], []⟩
noncomputable def d36 : FnD := ⟨Tryz.f36, bodyOf Tryz.f36, .no, .plain, [c36_0], [o36x0]⟩
noncomputable def c37_0 : Cut := ⟨[], 0, 0, [], ⟨spr 26 0 [(0, .c .sl .no), (1, .c .sl .no)], [], [], []⟩⟩
noncomputable def c37_1 : Cut := ⟨[0, 1, 0, 1, 1], 0, 0, [], ⟨spr 26 0 [(0, .c .sl .no), (1, .c .sl .no), (5, .c (.int .i64) .no), (10, .c .bool .no)], [], [], []⟩⟩
noncomputable def o37x0 : OSh := ⟨.rets [.c .bool .no], [], []⟩
noncomputable def d37 : FnD := ⟨Tryz.f37, bodyOf Tryz.f37, .no, .plain, [c37_0, c37_1], [o37x0]⟩
noncomputable def c38_0 : Cut := ⟨[], 0, 0, [], ⟨spr 32 0 [(0, .agg [.int .i64, .str, .int .i64, .int .i64, .sl, .sl] .no)], [], [], []⟩⟩
noncomputable def c38_1 : Cut := ⟨[0, 1, 0, 1, 1], 0, 0, [], ⟨spr 32 0 [(2, .c (.fix (.ptr 1 0)) .no), (3, .c (.fix (.ptr 2 0)) .no), (17, .c .sl .no), (18, .c (.int .i64) .no), (19, .c (.int .i64) .no)], [], [.cells [.c (.int .i64) .no, .c .str .no, .c (.int .i64) .no, .c (.int .i64) .no, .c .sl .no, .c .sl .no], .cells [.c (.int .i64) .no, .c .str .no, .c (.int .i64) .no, .c (.int .i64) .no, .c .sl .full, .c .sl .full], .cells [.c (.int .i64) .no, .c .str .no, .c (.int .i64) .no, .c (.int .i64) .no, .c .sl .full, .c .sl .no]], []⟩⟩
noncomputable def c38_2 : Cut := ⟨[0, 1, 0, 1, 1], 0, 0, [], ⟨spr 32 0 [(2, .c (.fix (.ptr 1 0)) .no), (3, .c (.fix (.ptr 2 0)) .no), (17, .c .sl .no), (18, .c (.int .i64) .no), (19, .c (.int .i64) .no), (20, .c .bool .no)], [], [.cells [.c (.int .i64) .no, .c .str .no, .c (.int .i64) .no, .c (.int .i64) .no, .c .sl .no, .c .sl .no], .cells [.c (.int .i64) .no, .c .str .no, .c (.int .i64) .no, .c (.int .i64) .no, .c .sl .full, .c .sl .full], .cells [.c (.int .i64) .no, .c .str .no, .c (.int .i64) .no, .c (.int .i64) .no, .c .sl (.tok 0), .c .sl .no], .cells [.c (.int .i64) .no, .c .str .no, .c (.int .i64) .no, .c (.int .i64) .no, .c .sl .no, .c .sl .no]], [.len 20]⟩⟩
noncomputable def o38x0 : OSh := ⟨.rets [.agg [.int .i64, .str, .int .i64, .int .i64, .sl, .sl] .no], [], []⟩
noncomputable def d38 : FnD := ⟨Tryz.f38, bodyOf Tryz.f38, .no, .plain, [c38_0, c38_1, c38_2], [o38x0]⟩
noncomputable def c74_0 : Cut := ⟨[], 0, 0, [], ⟨spr 26 0 [(0, .c .sl .no), (1, .c .sl .no)], [], [], []⟩⟩
noncomputable def c74_1 : Cut := ⟨[0, 1, 0, 1, 1], 0, 0, [], ⟨spr 26 0 [(0, .c .sl .no), (1, .c .sl .no), (10, .c .bool .no), (12, .c (.int .i64) .no), (13, .c (.int .i64) .no)], [], [], []⟩⟩
noncomputable def o74x0 : OSh := ⟨.rets [.c .bool .no], [], []⟩
noncomputable def d74 : FnD := ⟨Tryz.f74, bodyOf Tryz.f74, .no, .plain, [c74_0, c74_1], [o74x0]⟩
noncomputable def c75_0 : Cut := ⟨[], 0, 0, [], ⟨spr 32 0 [(0, .c .sl .no), (1, .c .sl .no), (2, .c (.fix (.fn 36 [] [])) .no)], [], [], []⟩⟩
noncomputable def c75_1 : Cut := ⟨[0, 1, 0, 1, 1], 0, 0, [], ⟨spr 32 0 [(1, .c .sl .no), (2, .c (.fix (.fn 36 [] [])) .no), (14, .c .bool .no), (15, .c .sl .no), (16, .c (.int .i64) .no), (17, .c (.int .i64) .no)], [], [], []⟩⟩
noncomputable def o75x0 : OSh := ⟨.rets [.c .bool .no], [], []⟩
noncomputable def d75 : FnD := ⟨Tryz.f75, bodyOf Tryz.f75, .no, .plain, [c75_0, c75_1], [o75x0]⟩
/-- the functions, and their data -/
noncomputable def fns : FuncId → Option FnD := fnsL [(4, d4), (9, d9), (13, d13), (14, d14), (15, d15), (16, d16), (30, d30), (36, d36), (37, d37), (38, d38), (74, d74), (75, d75)]
noncomputable def ext : FuncId → Option Go.Ab.Spec := extL [(10, specTrue), (76, specClone)]
noncomputable def lay : Lay := ⟨cx, pre, fns, ext⟩
theorem h4 : lay.fns 4 = some d4 := by kernel_rfl
theorem h9 : lay.fns 9 = some d9 := by kernel_rfl
theorem h13 : lay.fns 13 = some d13 := by kernel_rfl
theorem h14 : lay.fns 14 = some d14 := by kernel_rfl
theorem h15 : lay.fns 15 = some d15 := by kernel_rfl
theorem h16 : lay.fns 16 = some d16 := by kernel_rfl
theorem h30 : lay.fns 30 = some d30 := by kernel_rfl
theorem h36 : lay.fns 36 = some d36 := by kernel_rfl
theorem h37 : lay.fns 37 = some d37 := by kernel_rfl
theorem h38 : lay.fns 38 = some d38 := by kernel_rfl
theorem h74 : lay.fns 74 = some d74 := by kernel_rfl
theorem h75 : lay.fns 75 = some d75 := by kernel_rfl
end Go.Proofs.YtdiphholophdcabGreatDoor.T
end
section
open Go Go.Ab
namespace Go.Proofs.YtdiphholophdcabGreatDoor.T
/-! auklet/aukletlaw13.ShowSame -/
noncomputable def t4x0 (i0 : Int) (s1 : List UInt8) (i2 : Int) (i3 : Int) (l4 : List AV) (l5 : List AV) (i6 : Int) (s7 : List UInt8) (i8 : Int) (i9 : Int) (l10 : List AV) (l11 : List AV) : Tree :=
  .need ((AV.lows 0 l4) = Bool.true) <|
  .need ((AV.lows 0 l5) = Bool.true) <|
  .call 9 0 [(.int .i64 i0), (.str s1), (.int .i64 i2), (.int .i64 i3), (.sl l4), (.sl l5)] fun o =>
    outT o9x0 o (fun (b12 : Bool) =>
    .nm (Bool.not b12) fun (b13 : Bool) =>
    .ite b13 (.done ((.ret ((.bool Bool.true), .no)), ⟨[], ([] : List Nat)⟩))
      (.need ((AV.lows 0 l10) = Bool.true) <|
      .need ((AV.lows 0 l11) = Bool.true) <|
      .call 9 0 [(.int .i64 i6), (.str s7), (.int .i64 i8), (.int .i64 i9), (.sl l10), (.sl l11)] fun o =>
        outT o9x0 o (fun (b14 : Bool) =>
        .nm (Bool.not b14) fun (b15 : Bool) =>
        .ite b15 (.done ((.ret ((.bool Bool.true), .no)), ⟨[], ([] : List Nat)⟩))
          (.need ((AV.lows 0 l4) = Bool.true) <|
          .need ((AV.lows 0 l5) = Bool.true) <|
          .need ((AV.lows 0 l10) = Bool.true) <|
          .need ((AV.lows 0 l11) = Bool.true) <|
          .call 13 0 [(.int .i64 i0), (.str s1), (.int .i64 i2), (.int .i64 i3), (.sl l4), (.sl l5), (.int .i64 i6), (.str s7), (.int .i64 i8), (.int .i64 i9), (.sl l10), (.sl l11)] fun o =>
            outT o13x0 o (fun (b16 : Bool) =>
            .need ((AV.lows 0 l4) = Bool.true) <|
            .need ((AV.lows 0 l5) = Bool.true) <|
            .need ((AV.lows 0 l10) = Bool.true) <|
            .need ((AV.lows 0 l11) = Bool.true) <|
            .call 14 0 [(.int .i64 i0), (.str s1), (.int .i64 i2), (.int .i64 i3), (.sl l4), (.sl l5), (.int .i64 i6), (.str s7), (.int .i64 i8), (.int .i64 i9), (.sl l10), (.sl l11), (.bool Bool.false)] fun o =>
              outT o14x0 o (fun (b17 : Bool) =>
              .nm (b16 == b17) fun (b18 : Bool) =>
              .ite b18 (.need ((AV.lows 0 l4) = Bool.true) <|
                .need ((AV.lows 0 l5) = Bool.true) <|
                .call 15 0 [(.int .i64 i0), (.str s1), (.int .i64 i2), (.int .i64 i3), (.sl l4), (.sl l5)] fun o =>
                  outT o15x0 o (fun (i19 : Int) (s20 : List UInt8) (i21 : Int) (i22 : Int) (l23 : List AV) (l24 : List AV) =>
                  .need ((AV.lows 0 l23) = Bool.true) <|
                  .need ((AV.lows 0 l24) = Bool.true) <|
                  .need ((AV.lows 0 l4) = Bool.true) <|
                  .need ((AV.lows 0 l5) = Bool.true) <|
                  .call 16 0 [(.int .i64 i0), (.str s1), (.int .i64 i2), (.int .i64 i3), (.sl l4), (.sl l5)] fun o =>
                    outT o16x0 o (fun (i25 : Int) (s26 : List UInt8) (i27 : Int) (i28 : Int) (l29 : List AV) (l30 : List AV) =>
                    .need ((AV.lows 0 l29) = Bool.true) <|
                    .need ((AV.lows 0 l30) = Bool.true) <|
                    .need ((AV.lows 0 l23) = Bool.true) <|
                    .need ((AV.lows 0 l24) = Bool.true) <|
                    .need ((AV.lows 0 l29) = Bool.true) <|
                    .need ((AV.lows 0 l30) = Bool.true) <|
                    .call 14 0 [(.int .i64 i19), (.str s20), (.int .i64 i21), (.int .i64 i22), (.sl l23), (.sl l24), (.int .i64 i25), (.str s26), (.int .i64 i27), (.int .i64 i28), (.sl l29), (.sl l30), (.bool Bool.true)] fun o =>
                      outT o14x0 o (fun (b31 : Bool) =>
                      .ite b31 (.need (((collect [((.int .i64 i0), .no), ((.str s1), .no), ((.int .i64 i2), .no), ((.int .i64 i3), .no), ((.sl l4), .no), ((.sl l5), .no)]) : SV) = ((.agg [(.int .i64 i0), (.str s1), (.int .i64 i2), (.int .i64 i3), (.sl l4), (.sl l5)]), (.agg [.no, .no, .no, .no, .no, .no]))) <|
                        .need (((collect [((.int .i64 i6), .no), ((.str s7), .no), ((.int .i64 i8), .no), ((.int .i64 i9), .no), ((.sl l10), .no), ((.sl l11), .no)]) : SV) = ((.agg [(.int .i64 i6), (.str s7), (.int .i64 i8), (.int .i64 i9), (.sl l10), (.sl l11)]), (.agg [.no, .no, .no, .no, .no, .no]))) <|
                        .need (((collect [((.int .i64 i0), .no), ((.str s1), .no), ((.int .i64 i2), .no), ((.int .i64 i3), .no), ((.sl l4), .no), ((.sl l5), .no)]) : SV) = ((.agg [(.int .i64 i0), (.str s1), (.int .i64 i2), (.int .i64 i3), (.sl l4), (.sl l5)]), (.agg [.no, .no, .no, .no, .no, .no]))) <|
                        .done ((.ret ((.bool Bool.true), .no)), ⟨[], ([] : List Nat)⟩))
                        (.need (((collect [((.int .i64 i0), .no), ((.str s1), .no), ((.int .i64 i2), .no), ((.int .i64 i3), .no), ((.sl l4), .no), ((.sl l5), .no)]) : SV) = ((.agg [(.int .i64 i0), (.str s1), (.int .i64 i2), (.int .i64 i3), (.sl l4), (.sl l5)]), (.agg [.no, .no, .no, .no, .no, .no]))) <|
                        .need (((collect [((.int .i64 i6), .no), ((.str s7), .no), ((.int .i64 i8), .no), ((.int .i64 i9), .no), ((.sl l10), .no), ((.sl l11), .no)]) : SV) = ((.agg [(.int .i64 i6), (.str s7), (.int .i64 i8), (.int .i64 i9), (.sl l10), (.sl l11)]), (.agg [.no, .no, .no, .no, .no, .no]))) <|
                        .need (((collect [((.int .i64 i0), .no), ((.str s1), .no), ((.int .i64 i2), .no), ((.int .i64 i3), .no), ((.sl l4), .no), ((.sl l5), .no)]) : SV) = ((.agg [(.int .i64 i0), (.str s1), (.int .i64 i2), (.int .i64 i3), (.sl l4), (.sl l5)]), (.agg [.no, .no, .no, .no, .no, .no]))) <|
                        .done ((.ret ((.bool Bool.false), .no)), ⟨[], ([] : List Nat)⟩)))
                       (.fail))
                     (.fail))
                   (.fail))
                (.need (((collect [((.int .i64 i0), .no), ((.str s1), .no), ((.int .i64 i2), .no), ((.int .i64 i3), .no), ((.sl l4), .no), ((.sl l5), .no)]) : SV) = ((.agg [(.int .i64 i0), (.str s1), (.int .i64 i2), (.int .i64 i3), (.sl l4), (.sl l5)]), (.agg [.no, .no, .no, .no, .no, .no]))) <|
                .need (((collect [((.int .i64 i6), .no), ((.str s7), .no), ((.int .i64 i8), .no), ((.int .i64 i9), .no), ((.sl l10), .no), ((.sl l11), .no)]) : SV) = ((.agg [(.int .i64 i6), (.str s7), (.int .i64 i8), (.int .i64 i9), (.sl l10), (.sl l11)]), (.agg [.no, .no, .no, .no, .no, .no]))) <|
                .done ((.ret ((.bool Bool.false), .no)), ⟨[], ([] : List Nat)⟩)))
               (.fail))
             (.fail)))
         (.fail)))
     (.fail)
set_option maxRecDepth 20000 in
theorem e4x0 (call : CallFn) (i0 : Int) (s1 : List UInt8) (i2 : Int) (i3 : Int) (l4 : List AV) (l5 : List AV) (i6 : Int) (s7 : List UInt8) (i8 : Int) (i9 : Int) (l10 : List AV) (l11 : List AV) : lay.tree call 4 d4 0 [(.int .i64 i0), (.str s1), (.int .i64 i2), (.int .i64 i3), (.sl l4), (.sl l5), (.int .i64 i6), (.str s7), (.int .i64 i8), (.int .i64 i9), (.sl l10), (.sl l11)] = t4x0 i0 s1 i2 i3 l4 l5 i6 s7 i8 i9 l10 l11 := by kernel_rfl
/-! auklet/aukletlaw13.Small -/
noncomputable def t9x0 (i0 : Int) (s1 : List UInt8) (i2 : Int) (i3 : Int) (l4 : List AV) (l5 : List AV) : Tree :=
  .need ((AV.lows 0 l4) = Bool.true) <|
  .need ((AV.lows 0 l5) = Bool.true) <|
  .call 30 0 [(.int .i64 i0), (.str s1), (.int .i64 i2), (.int .i64 i3), (.sl l4), (.sl l5), (.int .i64 (1 : Int)), (.int .i64 (3000 : Int))] fun o =>
    outT o30x0 o (fun (i6 : Int) =>
    .nm (decide (i6 ≤ (3000 : Int))) fun (b7 : Bool) =>
    .done ((.ret ((.bool b7), .no)), ⟨[], ([] : List Nat)⟩))
     (.fail)
set_option maxRecDepth 20000 in
theorem e9x0 (call : CallFn) (i0 : Int) (s1 : List UInt8) (i2 : Int) (i3 : Int) (l4 : List AV) (l5 : List AV) : lay.tree call 9 d9 0 [(.int .i64 i0), (.str s1), (.int .i64 i2), (.int .i64 i3), (.sl l4), (.sl l5)] = t9x0 i0 s1 i2 i3 l4 l5 := by kernel_rfl
theorem s9x0 (b0 : Bool) (g : Bool → Tree) (els : Tree) : outT o9x0 ((.ret ((.bool b0), .no)), ⟨[], ([] : List Nat)⟩) g els = .need (([] : List Nat) = ([] : List Nat)) (g b0) := rfl
/-! auklet/show.Same -/
noncomputable def t13x0 (i0 : Int) (s1 : List UInt8) (i2 : Int) (i3 : Int) (l4 : List AV) (l5 : List AV) (i6 : Int) (s7 : List UInt8) (i8 : Int) (i9 : Int) (l10 : List AV) (l11 : List AV) : Tree :=
  .need ((AV.lows 0 l4) = Bool.true) <|
  .need ((AV.lows 0 l5) = Bool.true) <|
  .need ((AV.lows 0 l10) = Bool.true) <|
  .need ((AV.lows 0 l11) = Bool.true) <|
  .call 36 0 [(.int .i64 i0), (.str s1), (.int .i64 i2), (.int .i64 i3), (.sl l4), (.sl l5), (.int .i64 i6), (.str s7), (.int .i64 i8), (.int .i64 i9), (.sl l10), (.sl l11)] fun o =>
    outT o36x0 o (fun (b12 : Bool) =>
    .done ((.ret ((.bool b12), .no)), ⟨[], ([] : List Nat)⟩))
     (.fail)
set_option maxRecDepth 20000 in
theorem e13x0 (call : CallFn) (i0 : Int) (s1 : List UInt8) (i2 : Int) (i3 : Int) (l4 : List AV) (l5 : List AV) (i6 : Int) (s7 : List UInt8) (i8 : Int) (i9 : Int) (l10 : List AV) (l11 : List AV) : lay.tree call 13 d13 0 [(.int .i64 i0), (.str s1), (.int .i64 i2), (.int .i64 i3), (.sl l4), (.sl l5), (.int .i64 i6), (.str s7), (.int .i64 i8), (.int .i64 i9), (.sl l10), (.sl l11)] = t13x0 i0 s1 i2 i3 l4 l5 i6 s7 i8 i9 l10 l11 := by kernel_rfl
theorem s13x0 (b0 : Bool) (g : Bool → Tree) (els : Tree) : outT o13x0 ((.ret ((.bool b0), .no)), ⟨[], ([] : List Nat)⟩) g els = .need (([] : List Nat) = ([] : List Nat)) (g b0) := rfl
/-! auklet/aukletref12.Same -/
noncomputable def t14x0 (i0 : Int) (s1 : List UInt8) (i2 : Int) (i3 : Int) (l4 : List AV) (l5 : List AV) (i6 : Int) (s7 : List UInt8) (i8 : Int) (i9 : Int) (l10 : List AV) (l11 : List AV) (b12 : Bool) : Tree :=
  .nm (i0 != i6) fun (b13 : Bool) =>
  .ite b13 (.done ((.ret ((.bool Bool.false), .no)), ⟨[], ([] : List Nat)⟩))
    (.nm (Bool.not (s1 == s7)) fun (b14 : Bool) =>
    .ite b14 (.done ((.ret ((.bool Bool.false), .no)), ⟨[], ([] : List Nat)⟩))
      (.nm (i2 != i8) fun (b15 : Bool) =>
      .ite b15 (.done ((.ret ((.bool Bool.false), .no)), ⟨[], ([] : List Nat)⟩))
        (.ite b12 (.nm (i3 != i9) fun (b16 : Bool) =>
          .ite b16 (.done ((.ret ((.bool Bool.false), .no)), ⟨[], ([] : List Nat)⟩))
            (.need ((AV.lows 0 l5) = Bool.true) <|
            .need ((AV.lows 0 l11) = Bool.true) <|
            .call 37 0 [(.sl l5), (.sl l11)] fun o =>
              outT o37x0 o (fun (b17 : Bool) =>
              .nm (Bool.not b17) fun (b18 : Bool) =>
              .ite b18 (.done ((.ret ((.bool Bool.false), .no)), ⟨[], ([] : List Nat)⟩))
                (.nm (((List.length l4) : Nat) : Int) fun (r19 : Int) =>
                .nm (((List.length l10) : Nat) : Int) fun (r20 : Int) =>
                .nm (r19 != r20) fun (b21 : Bool) =>
                .ite b21 (.done ((.ret ((.bool Bool.false), .no)), ⟨[], ([] : List Nat)⟩))
                  (.jump 1 [(.bool b12), (.int .i64 (0 : Int)), (.bool b21), (.int .i64 i0), (.str s1), (.int .i64 i2), (.int .i64 i3), (.sl l4), (.sl l5), (.int .i64 i6), (.str s7), (.int .i64 i8), (.int .i64 i9), (.sl l10), (.sl l11)])))
               (.fail)))
          (.need ((AV.lows 0 l5) = Bool.true) <|
          .need ((AV.lows 0 l11) = Bool.true) <|
          .call 37 0 [(.sl l5), (.sl l11)] fun o =>
            outT o37x0 o (fun (b22 : Bool) =>
            .nm (Bool.not b22) fun (b23 : Bool) =>
            .ite b23 (.done ((.ret ((.bool Bool.false), .no)), ⟨[], ([] : List Nat)⟩))
              (.nm (((List.length l4) : Nat) : Int) fun (r24 : Int) =>
              .nm (((List.length l10) : Nat) : Int) fun (r25 : Int) =>
              .nm (r24 != r25) fun (b26 : Bool) =>
              .ite b26 (.done ((.ret ((.bool Bool.false), .no)), ⟨[], ([] : List Nat)⟩))
                (.jump 1 [(.bool b12), (.int .i64 (0 : Int)), (.bool b26), (.int .i64 i0), (.str s1), (.int .i64 i2), (.int .i64 i3), (.sl l4), (.sl l5), (.int .i64 i6), (.str s7), (.int .i64 i8), (.int .i64 i9), (.sl l10), (.sl l11)])))
             (.fail)))))
set_option maxRecDepth 20000 in
theorem e14x0 (call : CallFn) (i0 : Int) (s1 : List UInt8) (i2 : Int) (i3 : Int) (l4 : List AV) (l5 : List AV) (i6 : Int) (s7 : List UInt8) (i8 : Int) (i9 : Int) (l10 : List AV) (l11 : List AV) (b12 : Bool) : lay.tree call 14 d14 0 [(.int .i64 i0), (.str s1), (.int .i64 i2), (.int .i64 i3), (.sl l4), (.sl l5), (.int .i64 i6), (.str s7), (.int .i64 i8), (.int .i64 i9), (.sl l10), (.sl l11), (.bool b12)] = t14x0 i0 s1 i2 i3 l4 l5 i6 s7 i8 i9 l10 l11 b12 := by kernel_rfl
noncomputable def t14x1 (b0 : Bool) (i1 : Int) (b2 : Bool) (i3 : Int) (s4 : List UInt8) (i5 : Int) (i6 : Int) (l7 : List AV) (l8 : List AV) (i9 : Int) (s10 : List UInt8) (i11 : Int) (i12 : Int) (l13 : List AV) (l14 : List AV) : Tree :=
  .nm (((List.length l7) : Nat) : Int) fun (r15 : Int) =>
  .nm (decide (i1 < r15)) fun (b16 : Bool) =>
  .ite b16 (.opn [.int .i64, .str, .int .i64, .int .i64, .sl, .sl] (elemAt l7 i1) <| fun (i17 : Int) (s18 : List UInt8) (i19 : Int) (i20 : Int) (l21 : List AV) (l22 : List AV) =>
    .opn [.int .i64, .str, .int .i64, .int .i64, .sl, .sl] (elemAt l13 i1) <| fun (i23 : Int) (s24 : List UInt8) (i25 : Int) (i26 : Int) (l27 : List AV) (l28 : List AV) =>
    .need ((AV.lows 0 l21) = Bool.true) <|
    .need ((AV.lows 0 l22) = Bool.true) <|
    .need ((AV.lows 0 l27) = Bool.true) <|
    .need ((AV.lows 0 l28) = Bool.true) <|
    .call 14 0 [(.int .i64 i17), (.str s18), (.int .i64 i19), (.int .i64 i20), (.sl l21), (.sl l22), (.int .i64 i23), (.str s24), (.int .i64 i25), (.int .i64 i26), (.sl l27), (.sl l28), (.bool b0)] fun o =>
      outT o14x0 o (fun (b29 : Bool) =>
      .nm (Bool.not b29) fun (b30 : Bool) =>
      .ite b30 (.done ((.ret ((.bool Bool.false), .no)), ⟨[], ([] : List Nat)⟩))
        (.nm (Go.IntKind.wrap .i64 (i1 + (1 : Int))) fun (r31 : Int) =>
        .jump 1 [(.bool b0), (.int .i64 r31), (.bool b2), (.int .i64 i3), (.str s4), (.int .i64 i5), (.int .i64 i6), (.sl l7), (.sl l8), (.int .i64 i9), (.str s10), (.int .i64 i11), (.int .i64 i12), (.sl l13), (.sl l14)]))
       (.fail))
    (.done ((.ret ((.bool Bool.true), .no)), ⟨[], ([] : List Nat)⟩))
set_option maxRecDepth 20000 in
theorem e14x1 (call : CallFn) (b0 : Bool) (i1 : Int) (b2 : Bool) (i3 : Int) (s4 : List UInt8) (i5 : Int) (i6 : Int) (l7 : List AV) (l8 : List AV) (i9 : Int) (s10 : List UInt8) (i11 : Int) (i12 : Int) (l13 : List AV) (l14 : List AV) : lay.tree call 14 d14 1 [(.bool b0), (.int .i64 i1), (.bool b2), (.int .i64 i3), (.str s4), (.int .i64 i5), (.int .i64 i6), (.sl l7), (.sl l8), (.int .i64 i9), (.str s10), (.int .i64 i11), (.int .i64 i12), (.sl l13), (.sl l14)] = t14x1 b0 i1 b2 i3 s4 i5 i6 l7 l8 i9 s10 i11 i12 l13 l14 := by kernel_rfl
theorem s14x0 (b0 : Bool) (g : Bool → Tree) (els : Tree) : outT o14x0 ((.ret ((.bool b0), .no)), ⟨[], ([] : List Nat)⟩) g els = .need (([] : List Nat) = ([] : List Nat)) (g b0) := rfl
/-! auklet/show.Strip -/
noncomputable def t15x0 (i0 : Int) (s1 : List UInt8) (i2 : Int) (i3 : Int) (l4 : List AV) (l5 : List AV) : Tree :=
  .need ((AV.lows 0 l4) = Bool.true) <|
  .need ((AV.lows 0 l5) = Bool.true) <|
  .call 38 0 [(.int .i64 i0), (.str s1), (.int .i64 i2), (.int .i64 i3), (.sl l4), (.sl l5)] fun o =>
    outT o38x0 o (fun (i6 : Int) (s7 : List UInt8) (i8 : Int) (i9 : Int) (l10 : List AV) (l11 : List AV) =>
    .need ((AV.lows 0 l10) = Bool.true) <|
    .need ((AV.lows 0 l11) = Bool.true) <|
    .need ((AV.lows 0 l10) = Bool.true) <|
    .need ((AV.lows 0 l11) = Bool.true) <|
    .need ((AV.lows 0 l10) = Bool.true) <|
    .need ((AV.lows 0 l11) = Bool.true) <|
    .done ((.ret ((.agg [(.int .i64 i6), (.str s7), (.int .i64 i8), (.int .i64 i9), (.sl l10), (.sl l11)]), .no)), ⟨[], ([] : List Nat)⟩))
     (.fail)
set_option maxRecDepth 20000 in
theorem e15x0 (call : CallFn) (i0 : Int) (s1 : List UInt8) (i2 : Int) (i3 : Int) (l4 : List AV) (l5 : List AV) : lay.tree call 15 d15 0 [(.int .i64 i0), (.str s1), (.int .i64 i2), (.int .i64 i3), (.sl l4), (.sl l5)] = t15x0 i0 s1 i2 i3 l4 l5 := by kernel_rfl
theorem s15x0 (i0 : Int) (s1 : List UInt8) (i2 : Int) (i3 : Int) (l4 : List AV) (l5 : List AV) (g : Int → List UInt8 → Int → Int → List AV → List AV → Tree) (els : Tree) : outT o15x0 ((.ret ((.agg [(.int .i64 i0), (.str s1), (.int .i64 i2), (.int .i64 i3), (.sl l4), (.sl l5)]), .no)), ⟨[], ([] : List Nat)⟩) g els = .need (([] : List Nat) = ([] : List Nat)) (g i0 s1 i2 i3 l4 l5) := rfl
/-! auklet/aukletref13.Own -/
noncomputable def t16x0 (i0 : Int) (s1 : List UInt8) (i2 : Int) (i3 : Int) (l4 : List AV) (l5 : List AV) : Tree :=
  .need ((szOk [] 1) = Bool.true) <|
  .need ((szOk l5 1) = Bool.true) <|
  .need ((0 + (List.length l5)) ≤ (140737488355328 / (15 + 1))) <|
  .ite (List.isEmpty l5) (.need ((AV.lows 0 []) = Bool.true) <|
    .need ((AV.lows 0 []) = Bool.true) <|
    .need ((((.int .i64 i0), .no) : SV) = ((.int .i64 i0), .no)) <|
    .need ((((.str s1), .no) : SV) = ((.str s1), .no)) <|
    .need ((((.int .i64 i2), .no) : SV) = ((.int .i64 i2), .no)) <|
    .jump 1 [(.int .i64 (0 : Int)), (.int .i64 i0), (.str s1), (.int .i64 i2), (.int .i64 i3), (.sl l4), (.sl l5), (.int .i64 (0 : Int)), (.str ([] : List UInt8)), (.int .i64 (0 : Int)), (.int .i64 (0 : Int)), (.sl []), (.sl []), (.int .i64 i0), (.str s1), (.int .i64 i2), (.int .i64 (0 : Int)), (.sl []), (.sl [])])
    (.need ((AV.lows 0 []) = Bool.true) <|
    .need ((AV.lows 0 l5) = Bool.true) <|
    .need ((((.int .i64 i0), .no) : SV) = ((.int .i64 i0), .no)) <|
    .need ((((.str s1), .no) : SV) = ((.str s1), .no)) <|
    .need ((((.int .i64 i2), .no) : SV) = ((.int .i64 i2), .no)) <|
    .need ([(List.length l5)] = [(List.length l5)]) <|
    .jump 2 [(.int .i64 (0 : Int)), (.int .i64 i0), (.str s1), (.int .i64 i2), (.int .i64 i3), (.sl l4), (.sl l5), (.int .i64 (0 : Int)), (.str ([] : List UInt8)), (.int .i64 (0 : Int)), (.int .i64 (0 : Int)), (.sl []), (.sl []), (.int .i64 i0), (.str s1), (.int .i64 i2), (.int .i64 (0 : Int)), (.sl []), (.sl l5)])
set_option maxRecDepth 20000 in
theorem e16x0 (call : CallFn) (i0 : Int) (s1 : List UInt8) (i2 : Int) (i3 : Int) (l4 : List AV) (l5 : List AV) : lay.tree call 16 d16 0 [(.int .i64 i0), (.str s1), (.int .i64 i2), (.int .i64 i3), (.sl l4), (.sl l5)] = t16x0 i0 s1 i2 i3 l4 l5 := by kernel_rfl
noncomputable def t16x1 (i0 : Int) (i1 : Int) (s2 : List UInt8) (i3 : Int) (i4 : Int) (l5 : List AV) (l6 : List AV) (i7 : Int) (s8 : List UInt8) (i9 : Int) (i10 : Int) (l11 : List AV) (l12 : List AV) (i13 : Int) (s14 : List UInt8) (i15 : Int) (i16 : Int) (l17 : List AV) (l18 : List AV) : Tree :=
  .nm (((List.length l5) : Nat) : Int) fun (r19 : Int) =>
  .nm (decide (i0 < r19)) fun (b20 : Bool) =>
  .ite b20 (.opn [.int .i64, .str, .int .i64, .int .i64, .sl, .sl] (elemAt l5 i0) <| fun (i21 : Int) (s22 : List UInt8) (i23 : Int) (i24 : Int) (l25 : List AV) (l26 : List AV) =>
    .need ((AV.lows 0 l25) = Bool.true) <|
    .need ((AV.lows 0 l26) = Bool.true) <|
    .call 16 0 [(.int .i64 i21), (.str s22), (.int .i64 i23), (.int .i64 i24), (.sl l25), (.sl l26)] fun o =>
      outT o16x0 o (fun (i27 : Int) (s28 : List UInt8) (i29 : Int) (i30 : Int) (l31 : List AV) (l32 : List AV) =>
      .need ((AV.lows 0 l31) = Bool.true) <|
      .need ((AV.lows 0 l32) = Bool.true) <|
      .need ((AV.lows 0 l31) = Bool.true) <|
      .need ((AV.lows 0 l32) = Bool.true) <|
      .need ((szOk l17 6) = Bool.true) <|
      .need ((szOk [(.agg [(.int .i64 i27), (.str s28), (.int .i64 i29), (.int .i64 i30), (.sl l31), (.sl l32)])] 6) = Bool.true) <|
      .need (((List.length l17) + 1) ≤ (140737488355328 / (87 + 1))) <|
      .need ((AV.lows 0 (l17 ++ [(.agg [(.int .i64 i27), (.str s28), (.int .i64 i29), (.int .i64 i30), (.sl l31), (.sl l32)])])) = Bool.true) <|
      .nm (Go.IntKind.wrap .i64 (i0 + (1 : Int))) fun (r33 : Int) =>
      .need ([(List.length (l17 ++ [(.agg [(.int .i64 i27), (.str s28), (.int .i64 i29), (.int .i64 i30), (.sl l31), (.sl l32)])]))] = [(List.length (l17 ++ [(.agg [(.int .i64 i27), (.str s28), (.int .i64 i29), (.int .i64 i30), (.sl l31), (.sl l32)])]))]) <|
      .jump 3 [(.int .i64 r33), (.bool b20), (.int .i64 i1), (.str s2), (.int .i64 i3), (.int .i64 i4), (.sl l5), (.sl l6), (.int .i64 i7), (.str s8), (.int .i64 i9), (.int .i64 i10), (.sl l11), (.sl l12), (.int .i64 i13), (.str s14), (.int .i64 i15), (.int .i64 i16), (.sl (l17 ++ [(.agg [(.int .i64 i27), (.str s28), (.int .i64 i29), (.int .i64 i30), (.sl l31), (.sl l32)])])), (.sl l18), (.int .i64 i27), (.str s28), (.int .i64 i29), (.int .i64 i30), (.sl l31), (.sl l32)])
       (.fail))
    (.need ((AV.lows 0 l17) = Bool.true) <|
    .need ((AV.lows 0 l18) = Bool.true) <|
    .need ((AV.lows 0 l17) = Bool.true) <|
    .need ((AV.lows 0 l18) = Bool.true) <|
    .done ((.ret ((.agg [(.int .i64 i13), (.str s14), (.int .i64 i15), (.int .i64 i16), (.sl l17), (.sl l18)]), .no)), ⟨[], ([] : List Nat)⟩))
set_option maxRecDepth 20000 in
theorem e16x1 (call : CallFn) (i0 : Int) (i1 : Int) (s2 : List UInt8) (i3 : Int) (i4 : Int) (l5 : List AV) (l6 : List AV) (i7 : Int) (s8 : List UInt8) (i9 : Int) (i10 : Int) (l11 : List AV) (l12 : List AV) (i13 : Int) (s14 : List UInt8) (i15 : Int) (i16 : Int) (l17 : List AV) (l18 : List AV) : lay.tree call 16 d16 1 [(.int .i64 i0), (.int .i64 i1), (.str s2), (.int .i64 i3), (.int .i64 i4), (.sl l5), (.sl l6), (.int .i64 i7), (.str s8), (.int .i64 i9), (.int .i64 i10), (.sl l11), (.sl l12), (.int .i64 i13), (.str s14), (.int .i64 i15), (.int .i64 i16), (.sl l17), (.sl l18)] = t16x1 i0 i1 s2 i3 i4 l5 l6 i7 s8 i9 i10 l11 l12 i13 s14 i15 i16 l17 l18 := by kernel_rfl
noncomputable def t16x2 (i0 : Int) (i1 : Int) (s2 : List UInt8) (i3 : Int) (i4 : Int) (l5 : List AV) (l6 : List AV) (i7 : Int) (s8 : List UInt8) (i9 : Int) (i10 : Int) (l11 : List AV) (l12 : List AV) (i13 : Int) (s14 : List UInt8) (i15 : Int) (i16 : Int) (l17 : List AV) (l18 : List AV) : Tree :=
  .nm (((List.length l5) : Nat) : Int) fun (r19 : Int) =>
  .nm (decide (i0 < r19)) fun (b20 : Bool) =>
  .ite b20 (.opn [.int .i64, .str, .int .i64, .int .i64, .sl, .sl] (elemAt l5 i0) <| fun (i21 : Int) (s22 : List UInt8) (i23 : Int) (i24 : Int) (l25 : List AV) (l26 : List AV) =>
    .need ((AV.lows 0 l25) = Bool.true) <|
    .need ((AV.lows 0 l26) = Bool.true) <|
    .call 16 0 [(.int .i64 i21), (.str s22), (.int .i64 i23), (.int .i64 i24), (.sl l25), (.sl l26)] fun o =>
      outT o16x0 o (fun (i27 : Int) (s28 : List UInt8) (i29 : Int) (i30 : Int) (l31 : List AV) (l32 : List AV) =>
      .need ((AV.lows 0 l31) = Bool.true) <|
      .need ((AV.lows 0 l32) = Bool.true) <|
      .need ((AV.lows 0 l31) = Bool.true) <|
      .need ((AV.lows 0 l32) = Bool.true) <|
      .need ((szOk l17 6) = Bool.true) <|
      .need ((szOk [(.agg [(.int .i64 i27), (.str s28), (.int .i64 i29), (.int .i64 i30), (.sl l31), (.sl l32)])] 6) = Bool.true) <|
      .need (((List.length l17) + 1) ≤ (140737488355328 / (87 + 1))) <|
      .need ((AV.lows 0 (l17 ++ [(.agg [(.int .i64 i27), (.str s28), (.int .i64 i29), (.int .i64 i30), (.sl l31), (.sl l32)])])) = Bool.true) <|
      .nm (Go.IntKind.wrap .i64 (i0 + (1 : Int))) fun (r33 : Int) =>
      .need ([(List.length l18), (List.length (l17 ++ [(.agg [(.int .i64 i27), (.str s28), (.int .i64 i29), (.int .i64 i30), (.sl l31), (.sl l32)])]))] = [(List.length l18), (List.length (l17 ++ [(.agg [(.int .i64 i27), (.str s28), (.int .i64 i29), (.int .i64 i30), (.sl l31), (.sl l32)])]))]) <|
      .jump 4 [(.int .i64 r33), (.bool b20), (.int .i64 i1), (.str s2), (.int .i64 i3), (.int .i64 i4), (.sl l5), (.sl l6), (.int .i64 i7), (.str s8), (.int .i64 i9), (.int .i64 i10), (.sl l11), (.sl l12), (.int .i64 i13), (.str s14), (.int .i64 i15), (.int .i64 i16), (.sl (l17 ++ [(.agg [(.int .i64 i27), (.str s28), (.int .i64 i29), (.int .i64 i30), (.sl l31), (.sl l32)])])), (.sl l18), (.int .i64 i27), (.str s28), (.int .i64 i29), (.int .i64 i30), (.sl l31), (.sl l32)])
       (.fail))
    (.need ((AV.lows 0 l17) = Bool.true) <|
    .need ((AV.lows 0 l18) = Bool.true) <|
    .need ((AV.lows 0 l17) = Bool.true) <|
    .need ((AV.lows 0 l18) = Bool.true) <|
    .done ((.ret ((.agg [(.int .i64 i13), (.str s14), (.int .i64 i15), (.int .i64 i16), (.sl l17), (.sl l18)]), .no)), ⟨[], ([] : List Nat)⟩))
set_option maxRecDepth 20000 in
theorem e16x2 (call : CallFn) (i0 : Int) (i1 : Int) (s2 : List UInt8) (i3 : Int) (i4 : Int) (l5 : List AV) (l6 : List AV) (i7 : Int) (s8 : List UInt8) (i9 : Int) (i10 : Int) (l11 : List AV) (l12 : List AV) (i13 : Int) (s14 : List UInt8) (i15 : Int) (i16 : Int) (l17 : List AV) (l18 : List AV) : lay.tree call 16 d16 2 [(.int .i64 i0), (.int .i64 i1), (.str s2), (.int .i64 i3), (.int .i64 i4), (.sl l5), (.sl l6), (.int .i64 i7), (.str s8), (.int .i64 i9), (.int .i64 i10), (.sl l11), (.sl l12), (.int .i64 i13), (.str s14), (.int .i64 i15), (.int .i64 i16), (.sl l17), (.sl l18)] = t16x2 i0 i1 s2 i3 i4 l5 l6 i7 s8 i9 i10 l11 l12 i13 s14 i15 i16 l17 l18 := by kernel_rfl
noncomputable def t16x3 (i0 : Int) (b1 : Bool) (i2 : Int) (s3 : List UInt8) (i4 : Int) (i5 : Int) (l6 : List AV) (l7 : List AV) (i8 : Int) (s9 : List UInt8) (i10 : Int) (i11 : Int) (l12 : List AV) (l13 : List AV) (i14 : Int) (s15 : List UInt8) (i16 : Int) (i17 : Int) (l18 : List AV) (l19 : List AV) (i20 : Int) (s21 : List UInt8) (i22 : Int) (i23 : Int) (l24 : List AV) (l25 : List AV) : Tree :=
  .nm (((List.length l6) : Nat) : Int) fun (r26 : Int) =>
  .nm (decide (i0 < r26)) fun (b27 : Bool) =>
  .ite b27 (.opn [.int .i64, .str, .int .i64, .int .i64, .sl, .sl] (elemAt l6 i0) <| fun (i28 : Int) (s29 : List UInt8) (i30 : Int) (i31 : Int) (l32 : List AV) (l33 : List AV) =>
    .need ((AV.lows 0 l32) = Bool.true) <|
    .need ((AV.lows 0 l33) = Bool.true) <|
    .call 16 0 [(.int .i64 i28), (.str s29), (.int .i64 i30), (.int .i64 i31), (.sl l32), (.sl l33)] fun o =>
      outT o16x0 o (fun (i34 : Int) (s35 : List UInt8) (i36 : Int) (i37 : Int) (l38 : List AV) (l39 : List AV) =>
      .need ((AV.lows 0 l38) = Bool.true) <|
      .need ((AV.lows 0 l39) = Bool.true) <|
      .need ((AV.lows 0 l38) = Bool.true) <|
      .need ((AV.lows 0 l39) = Bool.true) <|
      .need ((szOk l18 6) = Bool.true) <|
      .need ((szOk [(.agg [(.int .i64 i34), (.str s35), (.int .i64 i36), (.int .i64 i37), (.sl l38), (.sl l39)])] 6) = Bool.true) <|
      .need (((List.length l18) + 1) ≤ (140737488355328 / (87 + 1))) <|
      .need ((Option.some (List.length l18)) = (Option.some (List.length l18))) <|
      .need ((AV.lows 0 (l18 ++ [(.agg [(.int .i64 i34), (.str s35), (.int .i64 i36), (.int .i64 i37), (.sl l38), (.sl l39)])])) = Bool.true) <|
      .nm (Go.IntKind.wrap .i64 (i0 + (1 : Int))) fun (r40 : Int) =>
      .need ([(List.length (l18 ++ [(.agg [(.int .i64 i34), (.str s35), (.int .i64 i36), (.int .i64 i37), (.sl l38), (.sl l39)])]))] = [(List.length (l18 ++ [(.agg [(.int .i64 i34), (.str s35), (.int .i64 i36), (.int .i64 i37), (.sl l38), (.sl l39)])]))]) <|
      .jump 3 [(.int .i64 r40), (.bool b27), (.int .i64 i2), (.str s3), (.int .i64 i4), (.int .i64 i5), (.sl l6), (.sl l7), (.int .i64 i8), (.str s9), (.int .i64 i10), (.int .i64 i11), (.sl l12), (.sl l13), (.int .i64 i14), (.str s15), (.int .i64 i16), (.int .i64 i17), (.sl (l18 ++ [(.agg [(.int .i64 i34), (.str s35), (.int .i64 i36), (.int .i64 i37), (.sl l38), (.sl l39)])])), (.sl l19), (.int .i64 i20), (.str s21), (.int .i64 i22), (.int .i64 i23), (.sl l24), (.sl l25)])
       (.fail))
    (.need ((AV.lows 0 l18) = Bool.true) <|
    .need ((AV.lows 0 l19) = Bool.true) <|
    .need ((AV.lows 0 l18) = Bool.true) <|
    .need ((AV.lows 0 l19) = Bool.true) <|
    .done ((.ret ((.agg [(.int .i64 i14), (.str s15), (.int .i64 i16), (.int .i64 i17), (.sl l18), (.sl l19)]), .no)), ⟨[], ([] : List Nat)⟩))
set_option maxRecDepth 20000 in
theorem e16x3 (call : CallFn) (i0 : Int) (b1 : Bool) (i2 : Int) (s3 : List UInt8) (i4 : Int) (i5 : Int) (l6 : List AV) (l7 : List AV) (i8 : Int) (s9 : List UInt8) (i10 : Int) (i11 : Int) (l12 : List AV) (l13 : List AV) (i14 : Int) (s15 : List UInt8) (i16 : Int) (i17 : Int) (l18 : List AV) (l19 : List AV) (i20 : Int) (s21 : List UInt8) (i22 : Int) (i23 : Int) (l24 : List AV) (l25 : List AV) : lay.tree call 16 d16 3 [(.int .i64 i0), (.bool b1), (.int .i64 i2), (.str s3), (.int .i64 i4), (.int .i64 i5), (.sl l6), (.sl l7), (.int .i64 i8), (.str s9), (.int .i64 i10), (.int .i64 i11), (.sl l12), (.sl l13), (.int .i64 i14), (.str s15), (.int .i64 i16), (.int .i64 i17), (.sl l18), (.sl l19), (.int .i64 i20), (.str s21), (.int .i64 i22), (.int .i64 i23), (.sl l24), (.sl l25)] = t16x3 i0 b1 i2 s3 i4 i5 l6 l7 i8 s9 i10 i11 l12 l13 i14 s15 i16 i17 l18 l19 i20 s21 i22 i23 l24 l25 := by kernel_rfl
noncomputable def t16x4 (i0 : Int) (b1 : Bool) (i2 : Int) (s3 : List UInt8) (i4 : Int) (i5 : Int) (l6 : List AV) (l7 : List AV) (i8 : Int) (s9 : List UInt8) (i10 : Int) (i11 : Int) (l12 : List AV) (l13 : List AV) (i14 : Int) (s15 : List UInt8) (i16 : Int) (i17 : Int) (l18 : List AV) (l19 : List AV) (i20 : Int) (s21 : List UInt8) (i22 : Int) (i23 : Int) (l24 : List AV) (l25 : List AV) : Tree :=
  .nm (((List.length l6) : Nat) : Int) fun (r26 : Int) =>
  .nm (decide (i0 < r26)) fun (b27 : Bool) =>
  .ite b27 (.opn [.int .i64, .str, .int .i64, .int .i64, .sl, .sl] (elemAt l6 i0) <| fun (i28 : Int) (s29 : List UInt8) (i30 : Int) (i31 : Int) (l32 : List AV) (l33 : List AV) =>
    .need ((AV.lows 0 l32) = Bool.true) <|
    .need ((AV.lows 0 l33) = Bool.true) <|
    .call 16 0 [(.int .i64 i28), (.str s29), (.int .i64 i30), (.int .i64 i31), (.sl l32), (.sl l33)] fun o =>
      outT o16x0 o (fun (i34 : Int) (s35 : List UInt8) (i36 : Int) (i37 : Int) (l38 : List AV) (l39 : List AV) =>
      .need ((AV.lows 0 l38) = Bool.true) <|
      .need ((AV.lows 0 l39) = Bool.true) <|
      .need ((AV.lows 0 l38) = Bool.true) <|
      .need ((AV.lows 0 l39) = Bool.true) <|
      .need ((szOk l18 6) = Bool.true) <|
      .need ((szOk [(.agg [(.int .i64 i34), (.str s35), (.int .i64 i36), (.int .i64 i37), (.sl l38), (.sl l39)])] 6) = Bool.true) <|
      .need (((List.length l18) + 1) ≤ (140737488355328 / (87 + 1))) <|
      .need ((Option.some (List.length l18)) = (Option.some (List.length l18))) <|
      .need ((AV.lows 0 (l18 ++ [(.agg [(.int .i64 i34), (.str s35), (.int .i64 i36), (.int .i64 i37), (.sl l38), (.sl l39)])])) = Bool.true) <|
      .nm (Go.IntKind.wrap .i64 (i0 + (1 : Int))) fun (r40 : Int) =>
      .need ([(List.length l19), (List.length (l18 ++ [(.agg [(.int .i64 i34), (.str s35), (.int .i64 i36), (.int .i64 i37), (.sl l38), (.sl l39)])]))] = [(List.length l19), (List.length (l18 ++ [(.agg [(.int .i64 i34), (.str s35), (.int .i64 i36), (.int .i64 i37), (.sl l38), (.sl l39)])]))]) <|
      .jump 4 [(.int .i64 r40), (.bool b27), (.int .i64 i2), (.str s3), (.int .i64 i4), (.int .i64 i5), (.sl l6), (.sl l7), (.int .i64 i8), (.str s9), (.int .i64 i10), (.int .i64 i11), (.sl l12), (.sl l13), (.int .i64 i14), (.str s15), (.int .i64 i16), (.int .i64 i17), (.sl (l18 ++ [(.agg [(.int .i64 i34), (.str s35), (.int .i64 i36), (.int .i64 i37), (.sl l38), (.sl l39)])])), (.sl l19), (.int .i64 i20), (.str s21), (.int .i64 i22), (.int .i64 i23), (.sl l24), (.sl l25)])
       (.fail))
    (.need ((AV.lows 0 l18) = Bool.true) <|
    .need ((AV.lows 0 l19) = Bool.true) <|
    .need ((AV.lows 0 l18) = Bool.true) <|
    .need ((AV.lows 0 l19) = Bool.true) <|
    .done ((.ret ((.agg [(.int .i64 i14), (.str s15), (.int .i64 i16), (.int .i64 i17), (.sl l18), (.sl l19)]), .no)), ⟨[], ([] : List Nat)⟩))
set_option maxRecDepth 20000 in
theorem e16x4 (call : CallFn) (i0 : Int) (b1 : Bool) (i2 : Int) (s3 : List UInt8) (i4 : Int) (i5 : Int) (l6 : List AV) (l7 : List AV) (i8 : Int) (s9 : List UInt8) (i10 : Int) (i11 : Int) (l12 : List AV) (l13 : List AV) (i14 : Int) (s15 : List UInt8) (i16 : Int) (i17 : Int) (l18 : List AV) (l19 : List AV) (i20 : Int) (s21 : List UInt8) (i22 : Int) (i23 : Int) (l24 : List AV) (l25 : List AV) : lay.tree call 16 d16 4 [(.int .i64 i0), (.bool b1), (.int .i64 i2), (.str s3), (.int .i64 i4), (.int .i64 i5), (.sl l6), (.sl l7), (.int .i64 i8), (.str s9), (.int .i64 i10), (.int .i64 i11), (.sl l12), (.sl l13), (.int .i64 i14), (.str s15), (.int .i64 i16), (.int .i64 i17), (.sl l18), (.sl l19), (.int .i64 i20), (.str s21), (.int .i64 i22), (.int .i64 i23), (.sl l24), (.sl l25)] = t16x4 i0 b1 i2 s3 i4 i5 l6 l7 i8 s9 i10 i11 l12 l13 i14 s15 i16 i17 l18 l19 i20 s21 i22 i23 l24 l25 := by kernel_rfl
theorem s16x0 (i0 : Int) (s1 : List UInt8) (i2 : Int) (i3 : Int) (l4 : List AV) (l5 : List AV) (g : Int → List UInt8 → Int → Int → List AV → List AV → Tree) (els : Tree) : outT o16x0 ((.ret ((.agg [(.int .i64 i0), (.str s1), (.int .i64 i2), (.int .i64 i3), (.sl l4), (.sl l5)]), .no)), ⟨[], ([] : List Nat)⟩) g els = .need (([] : List Nat) = ([] : List Nat)) (g i0 s1 i2 i3 l4 l5) := rfl
/-! auklet/aukletref13.Parts -/
noncomputable def t30x0 (i0 : Int) (s1 : List UInt8) (i2 : Int) (i3 : Int) (l4 : List AV) (l5 : List AV) (i6 : Int) (i7 : Int) : Tree :=
  .nm (decide (i6 > (600 : Int))) fun (b8 : Bool) =>
  .ite b8 (.done ((.ret ((.int .i64 (3001 : Int)), .no)), ⟨[], ([] : List Nat)⟩))
    (.nm (decide (i7 < (1 : Int))) fun (b9 : Bool) =>
    .ite b9 (.done ((.ret ((.int .i64 (3001 : Int)), .no)), ⟨[], ([] : List Nat)⟩))
      (.jump 1 [(.int .i64 i6), (.int .i64 i7), (.int .i64 (1 : Int)), (.int .i64 (0 : Int)), (.bool b9), (.int .i64 i0), (.str s1), (.int .i64 i2), (.int .i64 i3), (.sl l4), (.sl l5)]))
set_option maxRecDepth 20000 in
theorem e30x0 (call : CallFn) (i0 : Int) (s1 : List UInt8) (i2 : Int) (i3 : Int) (l4 : List AV) (l5 : List AV) (i6 : Int) (i7 : Int) : lay.tree call 30 d30 0 [(.int .i64 i0), (.str s1), (.int .i64 i2), (.int .i64 i3), (.sl l4), (.sl l5), (.int .i64 i6), (.int .i64 i7)] = t30x0 i0 s1 i2 i3 l4 l5 i6 i7 := by kernel_rfl
noncomputable def t30x1 (i0 : Int) (i1 : Int) (i2 : Int) (i3 : Int) (b4 : Bool) (i5 : Int) (s6 : List UInt8) (i7 : Int) (i8 : Int) (l9 : List AV) (l10 : List AV) : Tree :=
  .nm (((List.length l9) : Nat) : Int) fun (r11 : Int) =>
  .nm (decide (i3 < r11)) fun (b12 : Bool) =>
  .ite b12 (.nm (decide (i2 ≤ i1)) fun (b13 : Bool) =>
    .ite b13 (.opn [.int .i64, .str, .int .i64, .int .i64, .sl, .sl] (elemAt l9 i3) <| fun (i14 : Int) (s15 : List UInt8) (i16 : Int) (i17 : Int) (l18 : List AV) (l19 : List AV) =>
      .nm (Go.IntKind.wrap .i64 (i0 + (1 : Int))) fun (r20 : Int) =>
      .nm (Go.IntKind.wrap .i64 (i1 - i2)) fun (r21 : Int) =>
      .need ((AV.lows 0 l18) = Bool.true) <|
      .need ((AV.lows 0 l19) = Bool.true) <|
      .call 30 0 [(.int .i64 i14), (.str s15), (.int .i64 i16), (.int .i64 i17), (.sl l18), (.sl l19), (.int .i64 r20), (.int .i64 r21)] fun o =>
        outT o30x0 o (fun (i22 : Int) =>
        .nm (Go.IntKind.wrap .i64 (i2 + i22)) fun (r23 : Int) =>
        .nm (Go.IntKind.wrap .i64 (i3 + (1 : Int))) fun (r24 : Int) =>
        .jump 1 [(.int .i64 i0), (.int .i64 i1), (.int .i64 r23), (.int .i64 r24), (.bool b4), (.int .i64 i5), (.str s6), (.int .i64 i7), (.int .i64 i8), (.sl l9), (.sl l10)])
         (.fail))
      (.done ((.ret ((.int .i64 i2), .no)), ⟨[], ([] : List Nat)⟩)))
    (.done ((.ret ((.int .i64 i2), .no)), ⟨[], ([] : List Nat)⟩))
set_option maxRecDepth 20000 in
theorem e30x1 (call : CallFn) (i0 : Int) (i1 : Int) (i2 : Int) (i3 : Int) (b4 : Bool) (i5 : Int) (s6 : List UInt8) (i7 : Int) (i8 : Int) (l9 : List AV) (l10 : List AV) : lay.tree call 30 d30 1 [(.int .i64 i0), (.int .i64 i1), (.int .i64 i2), (.int .i64 i3), (.bool b4), (.int .i64 i5), (.str s6), (.int .i64 i7), (.int .i64 i8), (.sl l9), (.sl l10)] = t30x1 i0 i1 i2 i3 b4 i5 s6 i7 i8 l9 l10 := by kernel_rfl
theorem s30x0 (i0 : Int) (g : Int → Tree) (els : Tree) : outT o30x0 ((.ret ((.int .i64 i0), .no)), ⟨[], ([] : List Nat)⟩) g els = .need (([] : List Nat) = ([] : List Nat)) (g i0) := rfl
/-! auklet/show.same -/
noncomputable def t36x0 (i0 : Int) (s1 : List UInt8) (i2 : Int) (i3 : Int) (l4 : List AV) (l5 : List AV) (i6 : Int) (s7 : List UInt8) (i8 : Int) (i9 : Int) (l10 : List AV) (l11 : List AV) : Tree :=
  .nm (i0 == i6) fun (b12 : Bool) =>
  .ite b12 (.nm (s1 == s7) fun (b13 : Bool) =>
    .ite b13 (.nm (i2 == i8) fun (b14 : Bool) =>
      .ite b14 (.need ((AV.lows 0 l5) = Bool.true) <|
        .need ((AV.lows 0 l11) = Bool.true) <|
        .call 74 0 [(.sl l5), (.sl l11)] fun o =>
          outT o74x0 o (fun (b15 : Bool) =>
          .ite b15 (.need ((AV.lows 0 l4) = Bool.true) <|
            .need ((AV.lows 0 l10) = Bool.true) <|
            .call 75 0 [(.sl l4), (.sl l10)] fun o =>
              outT o75x0 o (fun (b16 : Bool) =>
              .done ((.ret ((.bool b16), .no)), ⟨[], ([] : List Nat)⟩))
               (.fail))
            (.done ((.ret ((.bool Bool.false), .no)), ⟨[], ([] : List Nat)⟩)))
           (.fail))
        (.done ((.ret ((.bool Bool.false), .no)), ⟨[], ([] : List Nat)⟩)))
      (.done ((.ret ((.bool Bool.false), .no)), ⟨[], ([] : List Nat)⟩)))
    (.done ((.ret ((.bool Bool.false), .no)), ⟨[], ([] : List Nat)⟩))
set_option maxRecDepth 20000 in
theorem e36x0 (call : CallFn) (i0 : Int) (s1 : List UInt8) (i2 : Int) (i3 : Int) (l4 : List AV) (l5 : List AV) (i6 : Int) (s7 : List UInt8) (i8 : Int) (i9 : Int) (l10 : List AV) (l11 : List AV) : lay.tree call 36 d36 0 [(.int .i64 i0), (.str s1), (.int .i64 i2), (.int .i64 i3), (.sl l4), (.sl l5), (.int .i64 i6), (.str s7), (.int .i64 i8), (.int .i64 i9), (.sl l10), (.sl l11)] = t36x0 i0 s1 i2 i3 l4 l5 i6 s7 i8 i9 l10 l11 := by kernel_rfl
theorem s36x0 (b0 : Bool) (g : Bool → Tree) (els : Tree) : outT o36x0 ((.ret ((.bool b0), .no)), ⟨[], ([] : List Nat)⟩) g els = .need (([] : List Nat) = ([] : List Nat)) (g b0) := rfl
/-! auklet/aukletref12.Names -/
noncomputable def t37x0 (l0 : List AV) (l1 : List AV) : Tree :=
  .nm (((List.length l0) : Nat) : Int) fun (r2 : Int) =>
  .nm (((List.length l1) : Nat) : Int) fun (r3 : Int) =>
  .nm (r2 != r3) fun (b4 : Bool) =>
  .ite b4 (.done ((.ret ((.bool Bool.false), .no)), ⟨[], ([] : List Nat)⟩))
    (.jump 1 [(.sl l0), (.sl l1), (.int .i64 (0 : Int)), (.bool b4)])
set_option maxRecDepth 20000 in
theorem e37x0 (call : CallFn) (l0 : List AV) (l1 : List AV) : lay.tree call 37 d37 0 [(.sl l0), (.sl l1)] = t37x0 l0 l1 := by kernel_rfl
noncomputable def t37x1 (l0 : List AV) (l1 : List AV) (i2 : Int) (b3 : Bool) : Tree :=
  .nm (((List.length l0) : Nat) : Int) fun (r4 : Int) =>
  .nm (decide (i2 < r4)) fun (b5 : Bool) =>
  .ite b5 (.opn [.str] (elemAt l0 i2) <| fun (s6 : List UInt8) =>
    .opn [.str] (elemAt l1 i2) <| fun (s7 : List UInt8) =>
    .nm (Bool.not (s6 == s7)) fun (b8 : Bool) =>
    .ite b8 (.done ((.ret ((.bool Bool.false), .no)), ⟨[], ([] : List Nat)⟩))
      (.nm (Go.IntKind.wrap .i64 (i2 + (1 : Int))) fun (r9 : Int) =>
      .jump 1 [(.sl l0), (.sl l1), (.int .i64 r9), (.bool b3)]))
    (.done ((.ret ((.bool Bool.true), .no)), ⟨[], ([] : List Nat)⟩))
set_option maxRecDepth 20000 in
theorem e37x1 (call : CallFn) (l0 : List AV) (l1 : List AV) (i2 : Int) (b3 : Bool) : lay.tree call 37 d37 1 [(.sl l0), (.sl l1), (.int .i64 i2), (.bool b3)] = t37x1 l0 l1 i2 b3 := by kernel_rfl
theorem s37x0 (b0 : Bool) (g : Bool → Tree) (els : Tree) : outT o37x0 ((.ret ((.bool b0), .no)), ⟨[], ([] : List Nat)⟩) g els = .need (([] : List Nat) = ([] : List Nat)) (g b0) := rfl
/-! auklet/show.strip -/
noncomputable def t38x0 (i0 : Int) (s1 : List UInt8) (i2 : Int) (i3 : Int) (l4 : List AV) (l5 : List AV) : Tree :=
  .need ((AV.lows 0 l5) = Bool.true) <|
  .need (((allStr l5) = Bool.true) ∧ ((List.length l5) ≤ 8796093022208)) <|
  .need ((AV.lows 0 l5) = Bool.true) <|
  .need ((AV.lows 0 []) = Bool.true) <|
  .need ((AV.lows 0 l5) = Bool.true) <|
  .need ((((.int .i64 i0), .no) : SV) = ((.int .i64 i0), .no)) <|
  .need ((((.str s1), .no) : SV) = ((.str s1), .no)) <|
  .need ((((.int .i64 i2), .no) : SV) = ((.int .i64 i2), .no)) <|
  .nm (((List.length l4) : Nat) : Int) fun (r6 : Int) =>
  .jump 1 [(.sl l4), (.int .i64 r6), (.int .i64 (0 : Int)), (.int .i64 i0), (.str s1), (.int .i64 i2), (.int .i64 i3), (.sl l4), (.sl l5), (.int .i64 (0 : Int)), (.str ([] : List UInt8)), (.int .i64 (0 : Int)), (.int .i64 (0 : Int)), (.sl []), (.sl []), (.int .i64 i0), (.str s1), (.int .i64 i2), (.int .i64 (0 : Int)), (.sl []), (.sl l5)]
set_option maxRecDepth 20000 in
theorem e38x0 (call : CallFn) (i0 : Int) (s1 : List UInt8) (i2 : Int) (i3 : Int) (l4 : List AV) (l5 : List AV) : lay.tree call 38 d38 0 [(.int .i64 i0), (.str s1), (.int .i64 i2), (.int .i64 i3), (.sl l4), (.sl l5)] = t38x0 i0 s1 i2 i3 l4 l5 := by kernel_rfl
noncomputable def t38x1 (l0 : List AV) (i1 : Int) (i2 : Int) (i3 : Int) (s4 : List UInt8) (i5 : Int) (i6 : Int) (l7 : List AV) (l8 : List AV) (i9 : Int) (s10 : List UInt8) (i11 : Int) (i12 : Int) (l13 : List AV) (l14 : List AV) (i15 : Int) (s16 : List UInt8) (i17 : Int) (i18 : Int) (l19 : List AV) (l20 : List AV) : Tree :=
  .nm (decide (i2 < i1)) fun (b21 : Bool) =>
  .ite b21 (.opn [.int .i64, .str, .int .i64, .int .i64, .sl, .sl] (elemAt l0 i2) <| fun (i22 : Int) (s23 : List UInt8) (i24 : Int) (i25 : Int) (l26 : List AV) (l27 : List AV) =>
    .need ((AV.lows 0 l26) = Bool.true) <|
    .need ((AV.lows 0 l27) = Bool.true) <|
    .need ((AV.lows 0 l26) = Bool.true) <|
    .need ((AV.lows 0 l27) = Bool.true) <|
    .call 38 0 [(.int .i64 i22), (.str s23), (.int .i64 i24), (.int .i64 i25), (.sl l26), (.sl l27)] fun o =>
      outT o38x0 o (fun (i28 : Int) (s29 : List UInt8) (i30 : Int) (i31 : Int) (l32 : List AV) (l33 : List AV) =>
      .need ((AV.lows 0 l32) = Bool.true) <|
      .need ((AV.lows 0 l33) = Bool.true) <|
      .need ((szOk l19 6) = Bool.true) <|
      .need ((szOk [(.agg [(.int .i64 i28), (.str s29), (.int .i64 i30), (.int .i64 i31), (.sl l32), (.sl l33)])] 6) = Bool.true) <|
      .need (((List.length l19) + 1) ≤ (140737488355328 / (87 + 1))) <|
      .need ((AV.lows 0 (l19 ++ [(.agg [(.int .i64 i28), (.str s29), (.int .i64 i30), (.int .i64 i31), (.sl l32), (.sl l33)])])) = Bool.true) <|
      .need ((((.sl l19), .full) : SV) = ((.sl l19), .full)) <|
      .nm (Go.IntKind.wrap .i64 (i2 + (1 : Int))) fun (r34 : Int) =>
      .need ([(List.length (l19 ++ [(.agg [(.int .i64 i28), (.str s29), (.int .i64 i30), (.int .i64 i31), (.sl l32), (.sl l33)])]))] = [(List.length (l19 ++ [(.agg [(.int .i64 i28), (.str s29), (.int .i64 i30), (.int .i64 i31), (.sl l32), (.sl l33)])]))]) <|
      .jump 2 [(.sl l0), (.int .i64 i1), (.int .i64 r34), (.bool b21), (.int .i64 i3), (.str s4), (.int .i64 i5), (.int .i64 i6), (.sl l7), (.sl l8), (.int .i64 i9), (.str s10), (.int .i64 i11), (.int .i64 i12), (.sl l13), (.sl l14), (.int .i64 i15), (.str s16), (.int .i64 i17), (.int .i64 i18), (.sl (l19 ++ [(.agg [(.int .i64 i28), (.str s29), (.int .i64 i30), (.int .i64 i31), (.sl l32), (.sl l33)])])), (.sl l20), (.int .i64 i22), (.str s23), (.int .i64 i24), (.int .i64 i25), (.sl l26), (.sl l27)])
       (.fail))
    (.need ((AV.lows 0 l19) = Bool.true) <|
    .need ((AV.lows 0 l20) = Bool.true) <|
    .need ((AV.lows 0 l19) = Bool.true) <|
    .need ((AV.lows 0 l20) = Bool.true) <|
    .done ((.ret ((.agg [(.int .i64 i15), (.str s16), (.int .i64 i17), (.int .i64 i18), (.sl l19), (.sl l20)]), .no)), ⟨[], ([] : List Nat)⟩))
set_option maxRecDepth 20000 in
theorem e38x1 (call : CallFn) (l0 : List AV) (i1 : Int) (i2 : Int) (i3 : Int) (s4 : List UInt8) (i5 : Int) (i6 : Int) (l7 : List AV) (l8 : List AV) (i9 : Int) (s10 : List UInt8) (i11 : Int) (i12 : Int) (l13 : List AV) (l14 : List AV) (i15 : Int) (s16 : List UInt8) (i17 : Int) (i18 : Int) (l19 : List AV) (l20 : List AV) : lay.tree call 38 d38 1 [(.sl l0), (.int .i64 i1), (.int .i64 i2), (.int .i64 i3), (.str s4), (.int .i64 i5), (.int .i64 i6), (.sl l7), (.sl l8), (.int .i64 i9), (.str s10), (.int .i64 i11), (.int .i64 i12), (.sl l13), (.sl l14), (.int .i64 i15), (.str s16), (.int .i64 i17), (.int .i64 i18), (.sl l19), (.sl l20)] = t38x1 l0 i1 i2 i3 s4 i5 i6 l7 l8 i9 s10 i11 i12 l13 l14 i15 s16 i17 i18 l19 l20 := by kernel_rfl
noncomputable def t38x2 (l0 : List AV) (i1 : Int) (i2 : Int) (b3 : Bool) (i4 : Int) (s5 : List UInt8) (i6 : Int) (i7 : Int) (l8 : List AV) (l9 : List AV) (i10 : Int) (s11 : List UInt8) (i12 : Int) (i13 : Int) (l14 : List AV) (l15 : List AV) (i16 : Int) (s17 : List UInt8) (i18 : Int) (i19 : Int) (l20 : List AV) (l21 : List AV) (i22 : Int) (s23 : List UInt8) (i24 : Int) (i25 : Int) (l26 : List AV) (l27 : List AV) : Tree :=
  .nm (decide (i2 < i1)) fun (b28 : Bool) =>
  .ite b28 (.opn [.int .i64, .str, .int .i64, .int .i64, .sl, .sl] (elemAt l0 i2) <| fun (i29 : Int) (s30 : List UInt8) (i31 : Int) (i32 : Int) (l33 : List AV) (l34 : List AV) =>
    .need ((AV.lows 0 l33) = Bool.true) <|
    .need ((AV.lows 0 l34) = Bool.true) <|
    .need ((AV.lows 0 l33) = Bool.true) <|
    .need ((AV.lows 0 l34) = Bool.true) <|
    .call 38 0 [(.int .i64 i29), (.str s30), (.int .i64 i31), (.int .i64 i32), (.sl l33), (.sl l34)] fun o =>
      outT o38x0 o (fun (i35 : Int) (s36 : List UInt8) (i37 : Int) (i38 : Int) (l39 : List AV) (l40 : List AV) =>
      .need ((AV.lows 0 l39) = Bool.true) <|
      .need ((AV.lows 0 l40) = Bool.true) <|
      .need ((szOk l20 6) = Bool.true) <|
      .need ((szOk [(.agg [(.int .i64 i35), (.str s36), (.int .i64 i37), (.int .i64 i38), (.sl l39), (.sl l40)])] 6) = Bool.true) <|
      .need (((List.length l20) + 1) ≤ (140737488355328 / (87 + 1))) <|
      .need ((Option.some (List.length l20)) = (Option.some (List.length l20))) <|
      .need ((AV.lows 0 (l20 ++ [(.agg [(.int .i64 i35), (.str s36), (.int .i64 i37), (.int .i64 i38), (.sl l39), (.sl l40)])])) = Bool.true) <|
      .need ((((.sl l20), (.tok 0)) : SV) = ((.sl l20), (.tok 0))) <|
      .nm (Go.IntKind.wrap .i64 (i2 + (1 : Int))) fun (r41 : Int) =>
      .need ([(List.length (l20 ++ [(.agg [(.int .i64 i35), (.str s36), (.int .i64 i37), (.int .i64 i38), (.sl l39), (.sl l40)])]))] = [(List.length (l20 ++ [(.agg [(.int .i64 i35), (.str s36), (.int .i64 i37), (.int .i64 i38), (.sl l39), (.sl l40)])]))]) <|
      .need ((AV.lows 0 l0) = Bool.true) <|
      .jump 2 [(.sl l0), (.int .i64 i1), (.int .i64 r41), (.bool b28), (.int .i64 i4), (.str s5), (.int .i64 i6), (.int .i64 i7), (.sl l8), (.sl l9), (.int .i64 i10), (.str s11), (.int .i64 i12), (.int .i64 i13), (.sl l14), (.sl l15), (.int .i64 i16), (.str s17), (.int .i64 i18), (.int .i64 i19), (.sl (l20 ++ [(.agg [(.int .i64 i35), (.str s36), (.int .i64 i37), (.int .i64 i38), (.sl l39), (.sl l40)])])), (.sl l21), (.int .i64 i22), (.str s23), (.int .i64 i24), (.int .i64 i25), (.sl l26), (.sl l27)])
       (.fail))
    (.need ((AV.lows 0 l20) = Bool.true) <|
    .need ((AV.lows 0 l21) = Bool.true) <|
    .need ((AV.lows 0 l20) = Bool.true) <|
    .need ((AV.lows 0 l21) = Bool.true) <|
    .done ((.ret ((.agg [(.int .i64 i16), (.str s17), (.int .i64 i18), (.int .i64 i19), (.sl l20), (.sl l21)]), .no)), ⟨[], ([] : List Nat)⟩))
set_option maxRecDepth 20000 in
theorem e38x2 (call : CallFn) (l0 : List AV) (i1 : Int) (i2 : Int) (b3 : Bool) (i4 : Int) (s5 : List UInt8) (i6 : Int) (i7 : Int) (l8 : List AV) (l9 : List AV) (i10 : Int) (s11 : List UInt8) (i12 : Int) (i13 : Int) (l14 : List AV) (l15 : List AV) (i16 : Int) (s17 : List UInt8) (i18 : Int) (i19 : Int) (l20 : List AV) (l21 : List AV) (i22 : Int) (s23 : List UInt8) (i24 : Int) (i25 : Int) (l26 : List AV) (l27 : List AV) : lay.tree call 38 d38 2 [(.sl l0), (.int .i64 i1), (.int .i64 i2), (.bool b3), (.int .i64 i4), (.str s5), (.int .i64 i6), (.int .i64 i7), (.sl l8), (.sl l9), (.int .i64 i10), (.str s11), (.int .i64 i12), (.int .i64 i13), (.sl l14), (.sl l15), (.int .i64 i16), (.str s17), (.int .i64 i18), (.int .i64 i19), (.sl l20), (.sl l21), (.int .i64 i22), (.str s23), (.int .i64 i24), (.int .i64 i25), (.sl l26), (.sl l27)] = t38x2 l0 i1 i2 b3 i4 s5 i6 i7 l8 l9 i10 s11 i12 i13 l14 l15 i16 s17 i18 i19 l20 l21 i22 s23 i24 i25 l26 l27 := by kernel_rfl
theorem s38x0 (i0 : Int) (s1 : List UInt8) (i2 : Int) (i3 : Int) (l4 : List AV) (l5 : List AV) (g : Int → List UInt8 → Int → Int → List AV → List AV → Tree) (els : Tree) : outT o38x0 ((.ret ((.agg [(.int .i64 i0), (.str s1), (.int .i64 i2), (.int .i64 i3), (.sl l4), (.sl l5)]), .no)), ⟨[], ([] : List Nat)⟩) g els = .need (([] : List Nat) = ([] : List Nat)) (g i0 s1 i2 i3 l4 l5) := rfl
/-! slices.Equal[[]string,string] -/
noncomputable def t74x0 (l0 : List AV) (l1 : List AV) : Tree :=
  .nm (((List.length l0) : Nat) : Int) fun (r2 : Int) =>
  .nm (((List.length l1) : Nat) : Int) fun (r3 : Int) =>
  .nm (r2 != r3) fun (b4 : Bool) =>
  .ite b4 (.done ((.ret ((.bool Bool.false), .no)), ⟨[], ([] : List Nat)⟩))
    (.nm (((List.length l0) : Nat) : Int) fun (r5 : Int) =>
    .jump 1 [(.sl l0), (.sl l1), (.bool b4), (.int .i64 r5), (.int .i64 (0 : Int))])
set_option maxRecDepth 20000 in
theorem e74x0 (call : CallFn) (l0 : List AV) (l1 : List AV) : lay.tree call 74 d74 0 [(.sl l0), (.sl l1)] = t74x0 l0 l1 := by kernel_rfl
noncomputable def t74x1 (l0 : List AV) (l1 : List AV) (b2 : Bool) (i3 : Int) (i4 : Int) : Tree :=
  .nm (decide (i4 < i3)) fun (b5 : Bool) =>
  .ite b5 (.opn [.str] (elemAt l0 i4) <| fun (s6 : List UInt8) =>
    .opn [.str] (elemAt l1 i4) <| fun (s7 : List UInt8) =>
    .nm (Bool.not (s6 == s7)) fun (b8 : Bool) =>
    .ite b8 (.done ((.ret ((.bool Bool.false), .no)), ⟨[], ([] : List Nat)⟩))
      (.nm (Go.IntKind.wrap .i64 (i4 + (1 : Int))) fun (r9 : Int) =>
      .jump 1 [(.sl l0), (.sl l1), (.bool b2), (.int .i64 i3), (.int .i64 r9)]))
    (.done ((.ret ((.bool Bool.true), .no)), ⟨[], ([] : List Nat)⟩))
set_option maxRecDepth 20000 in
theorem e74x1 (call : CallFn) (l0 : List AV) (l1 : List AV) (b2 : Bool) (i3 : Int) (i4 : Int) : lay.tree call 74 d74 1 [(.sl l0), (.sl l1), (.bool b2), (.int .i64 i3), (.int .i64 i4)] = t74x1 l0 l1 b2 i3 i4 := by kernel_rfl
theorem s74x0 (b0 : Bool) (g : Bool → Tree) (els : Tree) : outT o74x0 ((.ret ((.bool b0), .no)), ⟨[], ([] : List Nat)⟩) g els = .need (([] : List Nat) = ([] : List Nat)) (g b0) := rfl
/-! slices.EqualFunc[[]auklet/api.Node,[]auklet/api.Node,auklet/api.Node,auklet/api.Node] -/
noncomputable def t75x0 (l0 : List AV) (l1 : List AV) : Tree :=
  .nm (((List.length l0) : Nat) : Int) fun (r2 : Int) =>
  .nm (((List.length l1) : Nat) : Int) fun (r3 : Int) =>
  .nm (r2 != r3) fun (b4 : Bool) =>
  .ite b4 (.done ((.ret ((.bool Bool.false), .no)), ⟨[], ([] : List Nat)⟩))
    (.nm (((List.length l0) : Nat) : Int) fun (r5 : Int) =>
    .jump 1 [(.sl l1), (.bool b4), (.sl l0), (.int .i64 r5), (.int .i64 (0 : Int))])
set_option maxRecDepth 20000 in
theorem e75x0 (call : CallFn) (l0 : List AV) (l1 : List AV) : lay.tree call 75 d75 0 [(.sl l0), (.sl l1)] = t75x0 l0 l1 := by kernel_rfl
noncomputable def t75x1 (l0 : List AV) (b1 : Bool) (l2 : List AV) (i3 : Int) (i4 : Int) : Tree :=
  .nm (decide (i4 < i3)) fun (b5 : Bool) =>
  .ite b5 (.opn [.int .i64, .str, .int .i64, .int .i64, .sl, .sl] (elemAt l2 i4) <| fun (i6 : Int) (s7 : List UInt8) (i8 : Int) (i9 : Int) (l10 : List AV) (l11 : List AV) =>
    .need ((AV.lows 0 l10) = Bool.true) <|
    .need ((AV.lows 0 l11) = Bool.true) <|
    .opn [.int .i64, .str, .int .i64, .int .i64, .sl, .sl] (elemAt l0 i4) <| fun (i12 : Int) (s13 : List UInt8) (i14 : Int) (i15 : Int) (l16 : List AV) (l17 : List AV) =>
    .need ((AV.lows 0 l16) = Bool.true) <|
    .need ((AV.lows 0 l17) = Bool.true) <|
    .need ((AV.lows 0 l10) = Bool.true) <|
    .need ((AV.lows 0 l11) = Bool.true) <|
    .need ((AV.lows 0 l16) = Bool.true) <|
    .need ((AV.lows 0 l17) = Bool.true) <|
    .call 36 0 [(.int .i64 i6), (.str s7), (.int .i64 i8), (.int .i64 i9), (.sl l10), (.sl l11), (.int .i64 i12), (.str s13), (.int .i64 i14), (.int .i64 i15), (.sl l16), (.sl l17)] fun o =>
      outT o36x0 o (fun (b18 : Bool) =>
      .nm (Bool.not b18) fun (b19 : Bool) =>
      .ite b19 (.done ((.ret ((.bool Bool.false), .no)), ⟨[], ([] : List Nat)⟩))
        (.nm (Go.IntKind.wrap .i64 (i4 + (1 : Int))) fun (r20 : Int) =>
        .need ((AV.lows 0 l0) = Bool.true) <|
        .need ((AV.lows 0 l2) = Bool.true) <|
        .jump 1 [(.sl l0), (.bool b1), (.sl l2), (.int .i64 i3), (.int .i64 r20)]))
       (.fail))
    (.done ((.ret ((.bool Bool.true), .no)), ⟨[], ([] : List Nat)⟩))
set_option maxRecDepth 20000 in
theorem e75x1 (call : CallFn) (l0 : List AV) (b1 : Bool) (l2 : List AV) (i3 : Int) (i4 : Int) : lay.tree call 75 d75 1 [(.sl l0), (.bool b1), (.sl l2), (.int .i64 i3), (.int .i64 i4)] = t75x1 l0 b1 l2 i3 i4 := by kernel_rfl
theorem s75x0 (b0 : Bool) (g : Bool → Tree) (els : Tree) : outT o75x0 ((.ret ((.bool b0), .no)), ⟨[], ([] : List Nat)⟩) g els = .need (([] : List Nat) = ([] : List Nat)) (g b0) := rfl
end Go.Proofs.YtdiphholophdcabGreatDoor.T
end
section
open Go Go.Ab
/- PROGRAMS AS TREES: the values. -/
namespace Go.Proofs.YtdiphholophdcabGreatDoor.T
variable {K : Out → Prop}
theorem tw_needT {f : FuncId} {t : Tree} : (Tree.need True t).wp lay.ev f K ↔ t.wp lay.ev f K := ⟨fun h => h.2, fun h => ⟨trivial, h⟩⟩
/-- a node: its kind, its text, its number, its place, its parts, its names -/
inductive Nd where
  | mk (k : Int) (s : List UInt8) (n a : Int) (l : List Nd) (p : List (List UInt8))
mutual
def Nd.av : Nd → AV
  | .mk k s n a l p => .agg [.int .i64 k, .str s, .int .i64 n, .int .i64 a, .sl (Nd.avs l), .sl (p.map AV.str)]
def Nd.avs : List Nd → List AV
  | [] => []
  | x :: r => x.av :: Nd.avs r
end
theorem avs_map : ∀ l : List Nd, Nd.avs l = l.map Nd.av
  | [] => rfl
  | x :: r => by simp only [Nd.avs, List.map_cons, avs_map r]
theorem avs_len (l : List Nd) : (Nd.avs l).length = l.length := by rw [avs_map, List.length_map]
theorem strs_low (l : List (List UInt8)) : AV.lows 0 (l.map AV.str) = true := by
  rw [lows_iff]; intro y hy; obtain ⟨t, _, rfl⟩ := List.mem_map.1 hy; rfl
mutual
theorem av_low : ∀ x : Nd, AV.low 0 x.av = true
  | .mk k s n a l p => by simp only [Nd.av, AV.low, AV.lows, avs_low l, strs_low p, Bool.and_self]
theorem avs_low : ∀ l : List Nd, AV.lows 0 (Nd.avs l) = true
  | [] => rfl
  | x :: r => by simp only [Nd.avs, AV.lows, av_low x, avs_low r, Bool.and_self]
end
theorem strs_sz (l : List (List UInt8)) : szOk (l.map AV.str) 1 = true := by
  cases l <;> rfl
theorem avs_sz : ∀ l : List Nd, szOk (Nd.avs l) 6 = true
  | [] => rfl
  | .mk k s n a l p :: r => rfl
theorem elemAt_avs {l : List Nd} {i : Nat} (h : i < l.length) : elemAt (Nd.avs l) (i : Int) = some (l[i].av.cells) := by
  unfold elemAt
  rw [if_pos (by omega), Int.toNat_natCast, avs_map]
  simp [h]
theorem elemAt_strs {l : List (List UInt8)} {i : Nat} (h : i < l.length) : elemAt (l.map AV.str) (i : Int) = some [.str l[i]] := by
  unfold elemAt
  rw [if_pos (by omega), Int.toNat_natCast]
  simp [h, AV.cells]
theorem nd_cells (k : Int) (s : List UInt8) (n a : Int) (l : List Nd) (p : List (List UInt8)) : (Nd.mk k s n a l p).av.cells = [.int .i64 k, .str s, .int .i64 n, .int .i64 a, .sl (Nd.avs l), .sl (p.map AV.str)] := rfl
theorem outN (x : Nd) : ∃ k s n a l p, x = .mk k s n a l p := by
  obtain ⟨k, s, n, a, l, p⟩ := x
  exact ⟨_, _, _, _, _, _, rfl⟩
theorem avs_append (l r : List Nd) : Nd.avs l ++ Nd.avs r = Nd.avs (l ++ r) := by rw [avs_map, avs_map, avs_map, List.map_append]
mutual
def Nd.nodes : Nd → Nat
  | .mk _ _ _ _ l _ => 1 + Nd.nodesL l
def Nd.nodesL : List Nd → Nat
  | [] => 0
  | x :: r => x.nodes + Nd.nodesL r
end
theorem nodes_pos (x : Nd) : 1 ≤ x.nodes := by
  obtain ⟨k, s, n, a, l, p, rfl⟩ := outN x
  simp only [Nd.nodes]; omega
theorem nodesL_len : ∀ l : List Nd, l.length ≤ Nd.nodesL l
  | [] => by simp [Nd.nodesL]
  | x :: r => by
    have := nodes_pos x
    have := nodesL_len r
    simp only [Nd.nodesL, List.length_cons]; omega
/-! ### sameness -/
mutual
def sameF (w : Bool) : Nd → Nd → Bool
  | .mk k s n a l p, .mk k2 s2 n2 a2 l2 p2 => decide (k = k2) && decide (s = s2) && decide (n = n2) && (!w || decide (a = a2)) && decide (p = p2) && sameL w l l2
def sameL (w : Bool) : List Nd → List Nd → Bool
  | [], [] => true
  | x :: r, y :: q => sameF w x y && sameL w r q
  | _, _ => false
end
mutual
/-- without places -/
def stripF : Nd → Nd
  | .mk k s n _ l p => .mk k s n 0 (stripL l) p
def stripL : List Nd → List Nd
  | [] => []
  | x :: r => stripF x :: stripL r
end
end Go.Proofs.YtdiphholophdcabGreatDoor.T
end
section
open Go Go.Ab
/- HOW MANY PARTS A TREE HAS; TEXTS AND TREES COMPARED. -/
namespace Go.Proofs.YtdiphholophdcabGreatDoor.T
variable {K : Out → Prop}
theorem at_cons {α : Type} {l L : List α} {x : α} {i : Nat} (hi : x :: l = L.drop i) : ∃ h : i < L.length, x = L[i] ∧ l = L.drop (i + 1) := by
  have hlt : i < L.length := by
    rcases Nat.lt_or_ge i L.length with g | g
    · exact g
    · rw [List.drop_eq_nil_of_le g] at hi; cases hi
  have hd := List.drop_eq_getElem_cons hlt
  rw [← hi] at hd
  obtain ⟨hx, hl⟩ := List.cons.inj hd
  exact ⟨hlt, hx, hl⟩
theorem next64 {i n : Nat} (h : i < n) (hn : n ≤ 140737488355328) : IntKind.wrap .i64 (((i : Nat) : Int) + 1) = ((i + 1 : Nat) : Int) := by rw [wrap64 (by omega) (by omega)]; omega
/-! no node has too many names -/
mutual
def Nd.pok : Nd → Prop
  | .mk _ _ _ _ l p => p.length ≤ 8796093022208 ∧ Nd.pokL l
def Nd.pokL : List Nd → Prop
  | [] => True
  | x :: r => x.pok ∧ Nd.pokL r
end
mutual
theorem parts_wp : ∀ (x : Nd) (dp most : Int) {K : Out → Prop}, 0 ≤ dp → dp ≤ 700 → 0 ≤ most → most ≤ 3000 →
    (∀ p : Int, 1 ≤ p → p ≤ most + 3001 → (p ≤ most → p = (x.nodes : Nat)) → K (.ret (.int .i64 p, .no), ⟨[], []⟩)) → lay.Wp 30 0 (x.av.cells ++ [.int .i64 dp, .int .i64 most]) K
  | .mk k s n a l p, dp, most, K, h1, h2, h3, h4, h => by
    rw [nd_cells]
    refine Lay.wp_of h30 (fun call => e30x0 call _ _ _ _ _ _ _ _) ?_
    unfold t30x0
    simp only [tw_nm, tw_ite, tw_done, tw_jump]
    by_cases c1 : dp > 600
    · rw [if_pos (by simpa using c1)]
      exact h _ (by omega) (by omega) (by omega)
    rw [if_neg (by simpa using c1)]
    by_cases c2 : most < 1
    · rw [if_pos (by simpa using c2)]
      exact h _ (by omega) (by omega) (by omega)
    rw [if_neg (by simpa using c2)]
    refine partsL_wp l l 0 1 dp most rfl h1 (by omega) h3 h4 (by omega) (by omega) (by omega) _ k s n a p fun q q1 q2 q3 => h q (by omega) q2 fun q4 => ?_
    rw [q3 q4, Nd.nodes]; omega
theorem partsL_wp : ∀ (l L : List Nd) (i : Nat) (m dp most : Int), l = L.drop i → 0 ≤ dp → dp ≤ 600 → 0 ≤ most → most ≤ 3000 → 1 ≤ m → (i : Int) + 1 ≤ m → m ≤ most + 3001 → ∀ (b : Bool) (k : Int) (s : List UInt8) (n a : Int) (p : List (List UInt8)) {K : Out → Prop},
    (∀ q : Int, m ≤ q → q ≤ most + 3001 → (q ≤ most → q = m + (Nd.nodesL l : Nat)) → K (.ret (.int .i64 q, .no), ⟨[], []⟩)) →
    lay.Wp 30 1 [.int .i64 dp, .int .i64 most, .int .i64 m, .int .i64 (i : Nat), .bool b, .int .i64 k, .str s, .int .i64 n, .int .i64 a, .sl (Nd.avs L), .sl (p.map AV.str)] K
  | [], L, i, m, dp, most, hi, h1, h2, h3, h4, h5, h6, h7, b, k, s, n, a, p, K, h => by
    have hi : L.length ≤ i := List.drop_eq_nil_iff.1 hi.symm
    refine Lay.wp_of h30 (fun call => e30x1 call _ _ _ _ _ _ _ _ _ _ _) ?_
    unfold t30x1
    simp only [tw_nm, tw_ite, tw_done, avs_len]
    rw [if_neg (by simp; omega)]
    exact h _ (by omega) (by omega) (by simp [Nd.nodesL])
  | x :: l, L, i, m, dp, most, hi, h1, h2, h3, h4, h5, h6, h7, b, k, s, n, a, p, K, h => by
    obtain ⟨hlt, hx, hl⟩ := at_cons hi
    have e := elemAt_avs hlt
    rw [← hx] at e
    have hnode := nodes_pos x
    simp only [Nd.nodesL] at h
    have w1 : IntKind.wrap .i64 (dp + 1) = dp + 1 := wrap64 (by omega) (by omega)
    have w2 : IntKind.wrap .i64 (most - m) = most - m := wrap64 (by omega) (by omega)
    have hcall := fun (q2 : m ≤ most) K' h' => parts_wp x (dp + 1) (most - m) (K := K') (by omega) (by omega) (by omega) (by omega) h'
    have next := fun (q : Int) (q1 : 1 ≤ q) (q2 : q ≤ most - m + 3001) (q3 : q ≤ most - m → q = (x.nodes : Nat)) => partsL_wp l L (i + 1) (m + q) dp most hl h1 h2 h3 h4 (by omega) (by omega) (by omega) b k s n a p (K := K) fun t t1 t2 t3 => h t (by omega) t2 fun t4 => by
      have := t3 t4
      have := q3 (by omega)
      omega
    have hstop : most < m → K (.ret (.int .i64 m, .no), ⟨[], []⟩) := fun q => h _ (by omega) (by omega) (by omega)
    obtain ⟨k', s', n', a', l', p', rfl⟩ := outN x
    rw [nd_cells] at e hcall
    refine Lay.wp_of h30 (fun call => e30x1 call _ _ _ _ _ _ _ _ _ _ _) ?_
    unfold t30x1
    simp only [e, w1, w2, tw_nm, tw_ite, tw_opnS, openC_int, openC_str, openC_sl, openC_nil, tw_need, tw_done, tw_callT, avs_len]
    rw [if_pos (by simp; omega)]
    by_cases c1 : m ≤ most
    · rw [if_pos (by simpa using c1)]
      refine ⟨avs_low l', strs_low p', hcall c1 _ fun q q1 q2 q3 => ?_⟩
      have w3 : IntKind.wrap .i64 (m + q) = m + q := wrap64 (by omega) (by omega)
      have w4 : IntKind.wrap .i64 (((i : Nat) : Int) + 1) = ((i + 1 : Nat) : Int) := by rw [wrap64 (by omega) (by omega)]; omega
      simp only [s30x0, w3, w4, tw_needR, tw_needT, true_and, tw_nm, tw_jump]
      exact next q q1 q2 q3
    · rw [if_neg (by simpa using c1)]
      exact hstop (by omega)
end
/-- what is small -/
theorem small_wp {x : Nd} (h : ∀ b : Bool, (b = true → x.nodes ≤ 3000) → K (.ret (.bool b, .no), ⟨[], []⟩)) : lay.Wp 9 0 x.av.cells K := by
  have hp := fun K' h' => parts_wp x 1 3000 (K := K') (by decide) (by decide) (by decide) (by decide) h'
  obtain ⟨k, s, n, a, l, p, rfl⟩ := outN x
  rw [nd_cells] at hp ⊢
  refine Lay.wp_of h9 (fun call => e9x0 call _ _ _ _ _ _) ?_
  unfold t9x0
  simp only [tw_need, tw_callT]
  refine ⟨avs_low l, strs_low p, hp _ fun q q1 q2 q3 => ?_⟩
  simp only [s30x0, tw_needR, tw_needT, true_and, tw_nm, tw_done]
  refine h _ fun e => ?_
  have e : q ≤ 3000 := by simpa using e
  have := q3 e
  omega
/-! ### names -/
theorem eqS_loop {b : Bool} (L M : List (List UInt8)) (hLM : L.length = M.length) (hL : L.length ≤ 8796093022208) : ∀ (l m : List (List UInt8)) (i : Nat), l = L.drop i → m = M.drop i → K (.ret (.bool (decide (l = m)), .no), ⟨[], []⟩) →
    lay.Wp 74 1 [.sl (L.map AV.str), .sl (M.map AV.str), .bool b, .int .i64 (L.length : Nat), .int .i64 (i : Nat)] K
  | [], m, i, hl, hm, h => by
    have hi : L.length ≤ i := List.drop_eq_nil_iff.1 hl.symm
    have hm0 : m = [] := by rw [hm]; exact List.drop_eq_nil_of_le (by omega)
    subst hm0
    refine Lay.wp_of h74 (fun call => e74x1 call _ _ _ _ _) ?_
    unfold t74x1
    simp only [tw_nm, tw_ite, tw_done]
    rw [if_neg (by simp; omega)]
    exact h
  | x :: l, [], i, hl, hm, h => by
    obtain ⟨hlt, _, _⟩ := at_cons hl
    have : M.length ≤ i := List.drop_eq_nil_iff.1 hm.symm
    omega
  | x :: l, y :: m, i, hl, hm, h => by
    obtain ⟨hlt, hx, hl'⟩ := at_cons hl
    obtain ⟨hlt2, hy, hm'⟩ := at_cons hm
    have e1 := elemAt_strs hlt
    have e2 := elemAt_strs hlt2
    rw [← hx] at e1
    rw [← hy] at e2
    have w := next64 hlt (by omega)
    refine Lay.wp_of h74 (fun call => e74x1 call _ _ _ _ _) ?_
    unfold t74x1
    simp only [e1, e2, w, tw_nm, tw_ite, tw_opnS, openC_str, openC_nil, tw_done, tw_jump]
    rw [if_pos (by simp; omega)]
    by_cases c : x = y
    · rw [if_neg (by simp [c])]
      have e : decide (x :: l = y :: m) = decide (l = m) := by rw [decide_eq_decide]; simp [c]
      rw [e] at h
      exact eqS_loop L M hLM hL l m (i + 1) hl' hm' h
    · rw [if_pos (by simpa using c)]
      have e : decide (x :: l = y :: m) = false := by rw [decide_eq_false_iff_not]; simp [c]
      rw [e] at h
      exact h
theorem eqS_wp {l m : List (List UInt8)} (hl : l.length ≤ 8796093022208) (h : K (.ret (.bool (decide (l = m)), .no), ⟨[], []⟩)) : lay.Wp 74 0 [.sl (l.map AV.str), .sl (m.map AV.str)] K := by
  refine Lay.wp_of h74 (fun call => e74x0 call _ _) ?_
  unfold t74x0
  simp only [tw_nm, tw_ite, tw_done, tw_jump, List.length_map]
  by_cases c : l.length = m.length
  · rw [if_neg (by simp [c])]
    exact eqS_loop l m c hl l m 0 rfl rfl h
  · rw [if_pos (by simp only [bne_iff_ne, ne_eq]; omega)]
    have e : decide (l = m) = false := by rw [decide_eq_false_iff_not]; intro q; exact c (by rw [q])
    rw [e] at h
    exact h
theorem eqR_loop {b : Bool} (L M : List (List UInt8)) (hLM : L.length = M.length) (hL : L.length ≤ 8796093022208) : ∀ (l m : List (List UInt8)) (i : Nat), l = L.drop i → m = M.drop i → K (.ret (.bool (decide (l = m)), .no), ⟨[], []⟩) →
    lay.Wp 37 1 [.sl (L.map AV.str), .sl (M.map AV.str), .int .i64 (i : Nat), .bool b] K
  | [], m, i, hl, hm, h => by
    have hi : L.length ≤ i := List.drop_eq_nil_iff.1 hl.symm
    have hm0 : m = [] := by rw [hm]; exact List.drop_eq_nil_of_le (by omega)
    subst hm0
    refine Lay.wp_of h37 (fun call => e37x1 call _ _ _ _) ?_
    unfold t37x1
    simp only [tw_nm, tw_ite, tw_done, List.length_map]
    rw [if_neg (by simp; omega)]
    exact h
  | x :: l, [], i, hl, hm, h => by
    obtain ⟨hlt, _, _⟩ := at_cons hl
    have : M.length ≤ i := List.drop_eq_nil_iff.1 hm.symm
    omega
  | x :: l, y :: m, i, hl, hm, h => by
    obtain ⟨hlt, hx, hl'⟩ := at_cons hl
    obtain ⟨hlt2, hy, hm'⟩ := at_cons hm
    have e1 := elemAt_strs hlt
    have e2 := elemAt_strs hlt2
    rw [← hx] at e1
    rw [← hy] at e2
    have w := next64 hlt (by omega)
    refine Lay.wp_of h37 (fun call => e37x1 call _ _ _ _) ?_
    unfold t37x1
    simp only [e1, e2, w, tw_nm, tw_ite, tw_opnS, openC_str, openC_nil, tw_done, tw_jump, List.length_map]
    rw [if_pos (by simp; omega)]
    by_cases c : x = y
    · rw [if_neg (by simp [c])]
      have e : decide (x :: l = y :: m) = decide (l = m) := by rw [decide_eq_decide]; simp [c]
      rw [e] at h
      exact eqR_loop L M hLM hL l m (i + 1) hl' hm' h
    · rw [if_pos (by simpa using c)]
      have e : decide (x :: l = y :: m) = false := by rw [decide_eq_false_iff_not]; simp [c]
      rw [e] at h
      exact h
theorem eqR_wp {l m : List (List UInt8)} (hl : l.length ≤ 8796093022208) (h : K (.ret (.bool (decide (l = m)), .no), ⟨[], []⟩)) : lay.Wp 37 0 [.sl (l.map AV.str), .sl (m.map AV.str)] K := by
  refine Lay.wp_of h37 (fun call => e37x0 call _ _) ?_
  unfold t37x0
  simp only [tw_nm, tw_ite, tw_done, tw_jump, List.length_map]
  by_cases c : l.length = m.length
  · rw [if_neg (by simp [c])]
    exact eqR_loop l m c hl l m 0 rfl rfl h
  · rw [if_pos (by simp only [bne_iff_ne, ne_eq]; omega)]
    have e : decide (l = m) = false := by rw [decide_eq_false_iff_not]; intro q; exact c (by rw [q])
    rw [e] at h
    exact h
end Go.Proofs.YtdiphholophdcabGreatDoor.T
end
section
open Go Go.Ab
/- TREES COMPARED, AND WITHOUT PLACES. -/
namespace Go.Proofs.YtdiphholophdcabGreatDoor.T
variable {K : Out → Prop}
theorem sameL_len (w : Bool) : ∀ (l m : List Nd), l.length ≠ m.length → sameL w l m = false
  | [], [], h => (h rfl).elim
  | [], _ :: _, _ => rfl
  | _ :: _, [], _ => rfl
  | x :: l, y :: m, h => by
    rw [sameL, sameL_len w l m (by simpa using h), Bool.and_false]
mutual
theorem same_wp : ∀ (x y : Nd) {K : Out → Prop}, x.nodes ≤ 1000000 → x.pok → K (.ret (.bool (sameF false x y), .no), ⟨[], []⟩) → lay.Wp 36 0 (x.av.cells ++ y.av.cells) K
  | .mk k s n a l p, .mk k2 s2 n2 a2 l2 p2, K, hn, hp, h => by
    simp only [Nd.nodes] at hn
    have hln := nodesL_len l
    simp only [sameF, Bool.not_false, Bool.true_or, Bool.and_true] at h
    rw [nd_cells, nd_cells]
    refine Lay.wp_of h36 (fun call => e36x0 call _ _ _ _ _ _ _ _ _ _ _ _) ?_
    unfold t36x0
    simp only [tw_nm, tw_ite, tw_done, tw_need, tw_callT]
    by_cases c1 : k = k2
    · rw [if_pos (by simpa using c1)]
      by_cases c2 : s = s2
      · rw [if_pos (by simpa using c2)]
        by_cases c3 : n = n2
        · rw [if_pos (by simpa using c3)]
          rw [decide_eq_true c1, decide_eq_true c2, decide_eq_true c3, Bool.true_and, Bool.true_and, Bool.true_and] at h
          refine ⟨strs_low p, strs_low p2, eqS_wp hp.1 ?_⟩
          by_cases c4 : p = p2
          · rw [decide_eq_true c4, Bool.true_and] at h
            simp only [s74x0, c4, decide_true, tw_needR, tw_needT, true_and, tw_iteT, tw_need, tw_callT]
            refine ⟨avs_low l, avs_low l2, ?_⟩
            refine Lay.wp_of h75 (fun call => e75x0 call _ _) ?_
            unfold t75x0
            simp only [tw_nm, tw_ite, tw_done, tw_jump, avs_len]
            by_cases c5 : l.length = l2.length
            · rw [if_neg (by simp [c5])]
              refine sameL_wp l l l2 l2 0 rfl rfl c5 (by omega) (by omega) hp.2 _ ?_
              simp only [s75x0, tw_needR, tw_needT, true_and, tw_done]
              exact h
            · rw [if_pos (by simp only [bne_iff_ne, ne_eq]; omega)]
              rw [sameL_len false l l2 c5] at h
              simp only [s75x0, tw_needR, tw_needT, true_and, tw_done]
              exact h
          · rw [decide_eq_false c4, Bool.false_and] at h
            simp only [s74x0, decide_eq_false c4, tw_needR, tw_needT, true_and, tw_iteF, tw_done]
            exact h
        · rw [if_neg (by simpa using c3)]
          rw [decide_eq_false c3] at h
          simpa using h
      · rw [if_neg (by simpa using c2)]
        rw [decide_eq_false c2] at h
        simpa using h
    · rw [if_neg (by simpa using c1)]
      rw [decide_eq_false c1] at h
      simpa using h
theorem sameL_wp : ∀ (l L m M : List Nd) (i : Nat), l = L.drop i → m = M.drop i → L.length = M.length → L.length ≤ 1000000 → Nd.nodesL l ≤ 1000000 → Nd.pokL l → ∀ (b : Bool) {K : Out → Prop}, K (.ret (.bool (sameL false l m), .no), ⟨[], []⟩) →
    lay.Wp 75 1 [.sl (Nd.avs M), .bool b, .sl (Nd.avs L), .int .i64 (L.length : Nat), .int .i64 (i : Nat)] K
  | [], L, m, M, i, hl, hm, hLM, hL, hn, hp, b, K, h => by
    have hi : L.length ≤ i := List.drop_eq_nil_iff.1 hl.symm
    have hm0 : m = [] := by rw [hm]; exact List.drop_eq_nil_of_le (by omega)
    subst hm0
    refine Lay.wp_of h75 (fun call => e75x1 call _ _ _ _ _) ?_
    unfold t75x1
    simp only [tw_nm, tw_ite, tw_done]
    rw [if_neg (by simp; omega)]
    exact h
  | x :: l, L, [], M, i, hl, hm, hLM, hL, hn, hp, b, K, h => by
    obtain ⟨hlt, _, _⟩ := at_cons hl
    have : M.length ≤ i := List.drop_eq_nil_iff.1 hm.symm
    omega
  | x :: l, L, y :: m, M, i, hl, hm, hLM, hL, hn, hp, b, K, h => by
    obtain ⟨hlt, hx, hl'⟩ := at_cons hl
    obtain ⟨hlt2, hy, hm'⟩ := at_cons hm
    have e1 := elemAt_avs hlt
    have e2 := elemAt_avs hlt2
    rw [← hx] at e1
    rw [← hy] at e2
    have w := next64 hlt (by omega)
    simp only [Nd.nodesL] at hn
    have hcall := fun K' h' => same_wp x y (K := K') (by omega) hp.1 h'
    simp only [sameL] at h
    have next := fun (h : K (.ret (.bool (sameL false l m), .no), ⟨[], []⟩)) => sameL_wp l L m M (i + 1) hl' hm' hLM hL (by omega) hp.2 b h
    generalize sameF false x y = q at *
    obtain ⟨k, s, n, a, ll, p, rfl⟩ := outN x
    obtain ⟨k2, s2, n2, a2, ll2, p2, rfl⟩ := outN y
    rw [nd_cells] at e1 e2
    rw [nd_cells, nd_cells] at hcall
    refine Lay.wp_of h75 (fun call => e75x1 call _ _ _ _ _) ?_
    unfold t75x1
    simp only [e1, e2, w, tw_nm, tw_ite, tw_opnS, openC_int, openC_str, openC_sl, openC_nil, tw_done, tw_need, tw_callT]
    rw [if_pos (by simp; omega)]
    refine ⟨avs_low ll, strs_low p, avs_low ll2, strs_low p2, avs_low ll, strs_low p, avs_low ll2, strs_low p2, hcall _ ?_⟩
    cases q
    · simp only [s36x0, Bool.not_false, tw_needR, tw_needT, true_and, tw_nm, tw_iteT, tw_done]
      exact h
    · simp only [s36x0, Bool.not_true, tw_needR, tw_needT, true_and, tw_nm, tw_iteF, tw_need, tw_jump]
      exact ⟨avs_low M, avs_low L, next h⟩
end
theorem sameP_wp {x y : Nd} (hn : x.nodes ≤ 1000000) (hp : x.pok) (h : K (.ret (.bool (sameF false x y), .no), ⟨[], []⟩)) : lay.Wp 13 0 (x.av.cells ++ y.av.cells) K := by
  have hc := fun K' h' => same_wp x y (K := K') hn hp h'
  generalize sameF false x y = q at *
  obtain ⟨k, s, n, a, l, p, rfl⟩ := outN x
  obtain ⟨k2, s2, n2, a2, l2, p2, rfl⟩ := outN y
  rw [nd_cells, nd_cells] at *
  refine Lay.wp_of h13 (fun call => e13x0 call _ _ _ _ _ _ _ _ _ _ _ _) ?_
  unfold t13x0
  simp only [tw_need, tw_callT]
  refine ⟨avs_low l, strs_low p, avs_low l2, strs_low p2, hc _ ?_⟩
  simp only [s36x0, tw_needR, tw_needT, true_and, tw_done]
  exact h
/-! ### the reference's -/
mutual
theorem sameR_wp : ∀ (x y : Nd) (w : Bool) {K : Out → Prop}, x.nodes ≤ 1000000 → x.pok → K (.ret (.bool (sameF w x y), .no), ⟨[], []⟩) → lay.Wp 14 0 (x.av.cells ++ y.av.cells ++ [.bool w]) K
  | .mk k s n a l p, .mk k2 s2 n2 a2 l2 p2, w, K, hn, hp, h => by
    simp only [Nd.nodes] at hn
    have hln := nodesL_len l
    simp only [sameF] at h
    rw [nd_cells, nd_cells]
    have tail (b : Bool) (h : K (.ret (.bool (decide (p = p2) && sameL w l l2), .no), ⟨[], []⟩)) :
        lay.Wp 37 0 [.sl (p.map AV.str), .sl (p2.map AV.str)] fun o => (outT o37x0 o (fun (b17 : Bool) =>
              .nm (Bool.not b17) fun (b18 : Bool) =>
              .ite b18 (.done ((.ret ((.bool Bool.false), .no)), ⟨[], ([] : List Nat)⟩))
                (.nm (((List.length (Nd.avs l)) : Nat) : Int) fun (r19 : Int) =>
                .nm (((List.length (Nd.avs l2)) : Nat) : Int) fun (r20 : Int) =>
                .nm (r19 != r20) fun (b21 : Bool) =>
                .ite b21 (.done ((.ret ((.bool Bool.false), .no)), ⟨[], ([] : List Nat)⟩))
                  (.jump 1 [(.bool w), (.int .i64 (0 : Int)), (.bool b21), (.int .i64 k), (.str s), (.int .i64 n), (.int .i64 a), (.sl (Nd.avs l)), (.sl (p.map AV.str)), (.int .i64 k2), (.str s2), (.int .i64 n2), (.int .i64 a2), (.sl (Nd.avs l2)), (.sl (p2.map AV.str))])))
               (.fail)).wp lay.ev 14 K := by
      refine eqR_wp hp.1 ?_
      by_cases c4 : p = p2
      · rw [decide_eq_true c4, Bool.true_and] at h
        simp only [s37x0, decide_eq_true c4, Bool.not_true, tw_needR, tw_needT, true_and, tw_nm, tw_iteF]
        simp only [tw_nm, tw_ite, tw_done, tw_jump, avs_len]
        by_cases c5 : l.length = l2.length
        · rw [if_neg (by simp [c5])]
          exact sameRL_wp l l l2 l2 0 rfl rfl c5 (by omega) (by omega) hp.2 w _ _ _ _ _ _ _ _ _ _ _ h
        · rw [if_pos (by simp only [bne_iff_ne, ne_eq]; omega)]
          rw [sameL_len w l l2 c5] at h
          exact h
      · rw [decide_eq_false c4, Bool.false_and] at h
        simp only [s37x0, decide_eq_false c4, Bool.not_false, tw_needR, tw_needT, true_and, tw_nm, tw_iteT, tw_done]
        exact h
    refine Lay.wp_of h14 (fun call => e14x0 call _ _ _ _ _ _ _ _ _ _ _ _ _) ?_
    unfold t14x0
    simp only [tw_nm, tw_ite, tw_done, tw_need, tw_callT]
    by_cases c1 : k = k2
    · rw [if_neg (by simpa using c1)]
      by_cases c2 : s = s2
      · rw [if_neg (by simpa using c2)]
        by_cases c3 : n = n2
        · rw [if_neg (by simpa using c3)]
          rw [decide_eq_true c1, decide_eq_true c2, decide_eq_true c3, Bool.true_and, Bool.true_and, Bool.true_and] at h
          cases w
          · rw [if_neg (by simp)]
            exact ⟨strs_low p, strs_low p2, tail false (by simpa using h)⟩
          · rw [if_pos rfl]
            by_cases c4 : a = a2
            · rw [if_neg (by simpa using c4)]
              exact ⟨strs_low p, strs_low p2, tail true (by simpa [c4] using h)⟩
            · rw [if_pos (by simpa using c4)]
              rw [decide_eq_false c4] at h
              simpa using h
        · rw [if_pos (by simpa using c3)]
          rw [decide_eq_false c3] at h
          simpa using h
      · rw [if_pos (by simpa using c2)]
        rw [decide_eq_false c2] at h
        simpa using h
    · rw [if_pos (by simpa using c1)]
      rw [decide_eq_false c1] at h
      simpa using h
theorem sameRL_wp : ∀ (l L m M : List Nd) (i : Nat), l = L.drop i → m = M.drop i → L.length = M.length → L.length ≤ 1000000 → Nd.nodesL l ≤ 1000000 → Nd.pokL l → ∀ (w b : Bool) (k : Int) (s : List UInt8) (n a : Int) (p : List AV) (k2 : Int) (s2 : List UInt8) (n2 a2 : Int) (p2 : List AV) {K : Out → Prop}, K (.ret (.bool (sameL w l m), .no), ⟨[], []⟩) →
    lay.Wp 14 1 [.bool w, .int .i64 (i : Nat), .bool b, .int .i64 k, .str s, .int .i64 n, .int .i64 a, .sl (Nd.avs L), .sl p, .int .i64 k2, .str s2, .int .i64 n2, .int .i64 a2, .sl (Nd.avs M), .sl p2] K
  | [], L, m, M, i, hl, hm, hLM, hL, hn, hp, w, b, k, s, n, a, p, k2, s2, n2, a2, p2, K, h => by
    have hi : L.length ≤ i := List.drop_eq_nil_iff.1 hl.symm
    have hm0 : m = [] := by rw [hm]; exact List.drop_eq_nil_of_le (by omega)
    subst hm0
    refine Lay.wp_of h14 (fun call => e14x1 call _ _ _ _ _ _ _ _ _ _ _ _ _ _ _) ?_
    unfold t14x1
    simp only [tw_nm, tw_ite, tw_done, avs_len]
    rw [if_neg (by simp; omega)]
    exact h
  | x :: l, L, [], M, i, hl, hm, hLM, hL, hn, hp, w, b, k, s, n, a, p, k2, s2, n2, a2, p2, K, h => by
    obtain ⟨hlt, _, _⟩ := at_cons hl
    have : M.length ≤ i := List.drop_eq_nil_iff.1 hm.symm
    omega
  | x :: l, L, y :: m, M, i, hl, hm, hLM, hL, hn, hp, w, b, k, s, n, a, p, k2, s2, n2, a2, p2, K, h => by
    obtain ⟨hlt, hx, hl'⟩ := at_cons hl
    obtain ⟨hlt2, hy, hm'⟩ := at_cons hm
    have e1 := elemAt_avs hlt
    have e2 := elemAt_avs hlt2
    rw [← hx] at e1
    rw [← hy] at e2
    have w1 := next64 hlt (by omega)
    simp only [Nd.nodesL] at hn
    have hcall := fun K' h' => sameR_wp x y w (K := K') (by omega) hp.1 h'
    simp only [sameL] at h
    have next := fun (h : K (.ret (.bool (sameL w l m), .no), ⟨[], []⟩)) => sameRL_wp l L m M (i + 1) hl' hm' hLM hL (by omega) hp.2 w b k s n a p k2 s2 n2 a2 p2 h
    generalize sameF w x y = q at *
    obtain ⟨k', s', n', a', ll, p', rfl⟩ := outN x
    obtain ⟨k2', s2', n2', a2', ll2, p2', rfl⟩ := outN y
    rw [nd_cells] at e1 e2
    rw [nd_cells, nd_cells] at hcall
    refine Lay.wp_of h14 (fun call => e14x1 call _ _ _ _ _ _ _ _ _ _ _ _ _ _ _) ?_
    unfold t14x1
    simp only [e1, e2, w1, tw_nm, tw_ite, tw_opnS, openC_int, openC_str, openC_sl, openC_nil, tw_done, tw_need, tw_callT, avs_len]
    rw [if_pos (by simp; omega)]
    refine ⟨avs_low ll, strs_low p', avs_low ll2, strs_low p2', hcall _ ?_⟩
    cases q
    · simp only [s14x0, Bool.not_false, tw_needR, tw_needT, true_and, tw_nm, tw_iteT, tw_done]
      exact h
    · simp only [s14x0, Bool.not_true, tw_needR, tw_needT, true_and, tw_nm, tw_iteF, tw_jump]
      exact next h
end
end Go.Proofs.YtdiphholophdcabGreatDoor.T
end
section
open Go Go.Ab
/- TREES WITHOUT PLACES. -/
namespace Go.Proofs.YtdiphholophdcabGreatDoor.T
variable {K : Out → Prop}
mutual
theorem strip_wp : ∀ (x : Nd) {K : Out → Prop}, x.nodes ≤ 1000000 → x.pok → K (.ret ((stripF x).av, .no), ⟨[], []⟩) → lay.Wp 38 0 x.av.cells K
  | .mk k s n a l p, K, hn, hp, h => by
    simp only [Nd.nodes] at hn
    have hln := nodesL_len l
    rw [nd_cells]
    refine Lay.wp_of h38 (fun call => e38x0 call _ _ _ _ _ _) ?_
    unfold t38x0
    simp only [tw_nm, tw_needR, tw_needT, true_and, tw_need, tw_jump, avs_len, List.length_map]
    refine ⟨strs_low p, ⟨allStr_map p, hp.1⟩, strs_low p, rfl, strs_low p, ?_⟩
    exact strip1 l l 0 rfl (by omega) (by omega) hp.2 k s n 0 p _ _ _ _ _ _ _ _ _ _ _ _ h
theorem strip1 : ∀ (l L : List Nd) (i : Nat), l = L.drop i → L.length ≤ 1000000 → Nd.nodesL l ≤ 1000000 → Nd.pokL l → ∀ (k : Int) (s : List UInt8) (n a : Int) (p : List (List UInt8)) (x1 : Int) (x2 : List UInt8) (x3 : Int) (x4 : Int) (x5 : List AV) (x6 : List AV) (y1 : Int) (y2 : List UInt8) (y3 : Int) (y4 : Int) (y5 : List AV) (y6 : List AV) {K : Out → Prop}, K (.ret ((Nd.mk k s n a (stripL l) p).av, .no), ⟨[], []⟩) →
    lay.Wp 38 1 [.sl (Nd.avs L), .int .i64 (L.length : Nat), .int .i64 (i : Nat), .int .i64 x1, .str x2, .int .i64 x3, .int .i64 x4, .sl x5, .sl x6, .int .i64 y1, .str y2, .int .i64 y3, .int .i64 y4, .sl y5, .sl y6, .int .i64 k, .str s, .int .i64 n, .int .i64 a, .sl (Nd.avs []), .sl (p.map AV.str)] K
  | [], L, i, hl, hL, hn, hp, k, s, n, a, p, x1, x2, x3, x4, x5, x6, y1, y2, y3, y4, y5, y6, K, h => by
    have hi : L.length ≤ i := List.drop_eq_nil_iff.1 hl.symm
    rw [stripL] at h
    refine Lay.wp_of h38 (fun call => e38x1 call _ _ _ _ _ _ _ _ _ _ _ _ _ _ _ _ _ _ _ _ _) ?_
    unfold t38x1
    simp only [tw_nm, tw_ite, tw_need, tw_done, avs_len]
    rw [if_neg (by simp; omega)]
    exact ⟨avs_low _, strs_low p, avs_low _, strs_low p, h⟩
  | x :: l, L, i, hl, hL, hn, hp, k, s, n, a, p, x1, x2, x3, x4, x5, x6, y1, y2, y3, y4, y5, y6, K, h => by
    obtain ⟨hlt, hx, hl'⟩ := at_cons hl
    have e := elemAt_avs hlt
    rw [← hx] at e
    have w := next64 hlt (by omega)
    simp only [Nd.nodesL] at hn
    have hnp := nodes_pos x
    have hll := nodesL_len l
    have hcall := fun K' h' => strip_wp x (K := K') (by omega) hp.1 h'
    rw [stripL] at h
    have next := fun (b : Bool) (x1 : Int) (x2 : List UInt8) (x3 : Int) (x4 : Int) (x5 : List AV) (x6 : List AV) (y1 : Int) (y2 : List UInt8) (y3 : Int) (y4 : Int) (y5 : List AV) (y6 : List AV) (z1 : Int) (z2 : List UInt8) (z3 : Int) (z4 : Int) (z5 : List AV) (z6 : List AV) => strip2 l L (i + 1) ([] ++ [stripF x]) hl' hL (by simp; omega) (by omega) hp.2 k s n a p b x1 x2 x3 x4 x5 x6 y1 y2 y3 y4 y5 y6 z1 z2 z3 z4 z5 z6 (K := K) (by simpa using h)
    have hlow := avs_low ([] ++ [stripF x])
    rw [← avs_append] at hlow
    simp only [← avs_append] at next
    generalize stripF x = q at *
    obtain ⟨k', s', n', a', ll, p', rfl⟩ := outN x
    obtain ⟨k2, s2, n2, a2, ll2, p2, rfl⟩ := outN q
    rw [nd_cells] at e hcall
    refine Lay.wp_of h38 (fun call => e38x1 call _ _ _ _ _ _ _ _ _ _ _ _ _ _ _ _ _ _ _ _ _) ?_
    unfold t38x1
    simp only [e, w, tw_nm, tw_ite, tw_opnS, openC_int, openC_str, openC_sl, openC_nil, tw_done, tw_need, tw_callT, avs_len]
    rw [if_pos (by simp; omega)]
    refine ⟨avs_low ll, strs_low p', avs_low ll, strs_low p', hcall _ ?_⟩
    simp only [Nd.av, s38x0, tw_needR, tw_needT, true_and, tw_nm, tw_need, tw_jump]
    exact ⟨avs_low ll2, strs_low p2, avs_sz _, rfl, by simp only [List.length_nil]; omega, hlow, next _ _ _ _ _ _ _ _ _ _ _ _ _ _ _ _ _ _ _⟩
theorem strip2 : ∀ (l L : List Nd) (i : Nat) (acc : List Nd), l = L.drop i → L.length ≤ 1000000 → acc.length + l.length ≤ 1000000 → Nd.nodesL l ≤ 1000000 → Nd.pokL l → ∀ (k : Int) (s : List UInt8) (n a : Int) (p : List (List UInt8)) (b : Bool) (x1 : Int) (x2 : List UInt8) (x3 : Int) (x4 : Int) (x5 : List AV) (x6 : List AV) (y1 : Int) (y2 : List UInt8) (y3 : Int) (y4 : Int) (y5 : List AV) (y6 : List AV) (z1 : Int) (z2 : List UInt8) (z3 : Int) (z4 : Int) (z5 : List AV) (z6 : List AV) {K : Out → Prop}, K (.ret ((Nd.mk k s n a (acc ++ stripL l) p).av, .no), ⟨[], []⟩) →
    lay.Wp 38 2 [.sl (Nd.avs L), .int .i64 (L.length : Nat), .int .i64 (i : Nat), .bool b, .int .i64 x1, .str x2, .int .i64 x3, .int .i64 x4, .sl x5, .sl x6, .int .i64 y1, .str y2, .int .i64 y3, .int .i64 y4, .sl y5, .sl y6, .int .i64 k, .str s, .int .i64 n, .int .i64 a, .sl (Nd.avs acc), .sl (p.map AV.str), .int .i64 z1, .str z2, .int .i64 z3, .int .i64 z4, .sl z5, .sl z6] K
  | [], L, i, acc, hl, hL, ha, hn, hp, k, s, n, a, p, b, x1, x2, x3, x4, x5, x6, y1, y2, y3, y4, y5, y6, z1, z2, z3, z4, z5, z6, K, h => by
    have hi : L.length ≤ i := List.drop_eq_nil_iff.1 hl.symm
    rw [stripL, List.append_nil] at h
    refine Lay.wp_of h38 (fun call => e38x2 call _ _ _ _ _ _ _ _ _ _ _ _ _ _ _ _ _ _ _ _ _ _ _ _ _ _ _ _) ?_
    unfold t38x2
    simp only [tw_nm, tw_ite, tw_need, tw_done, avs_len]
    rw [if_neg (by simp; omega)]
    exact ⟨avs_low _, strs_low p, avs_low _, strs_low p, h⟩
  | x :: l, L, i, acc, hl, hL, ha, hn, hp, k, s, n, a, p, b, x1, x2, x3, x4, x5, x6, y1, y2, y3, y4, y5, y6, z1, z2, z3, z4, z5, z6, K, h => by
    obtain ⟨hlt, hx, hl'⟩ := at_cons hl
    have e := elemAt_avs hlt
    rw [← hx] at e
    have w := next64 hlt (by omega)
    simp only [Nd.nodesL] at hn
    simp only [List.length_cons] at ha
    have hnp := nodes_pos x
    have hll := nodesL_len l
    have hcall := fun K' h' => strip_wp x (K := K') (by omega) hp.1 h'
    rw [stripL] at h
    have next := fun (b : Bool) (x1 : Int) (x2 : List UInt8) (x3 : Int) (x4 : Int) (x5 : List AV) (x6 : List AV) (y1 : Int) (y2 : List UInt8) (y3 : Int) (y4 : Int) (y5 : List AV) (y6 : List AV) (z1 : Int) (z2 : List UInt8) (z3 : Int) (z4 : Int) (z5 : List AV) (z6 : List AV) => strip2 l L (i + 1) (acc ++ [stripF x]) hl' hL (by simp; omega) (by omega) hp.2 k s n a p b x1 x2 x3 x4 x5 x6 y1 y2 y3 y4 y5 y6 z1 z2 z3 z4 z5 z6 (K := K) (by simpa using h)
    have hlow := avs_low (acc ++ [stripF x])
    rw [← avs_append] at hlow
    simp only [← avs_append] at next
    generalize stripF x = q at *
    obtain ⟨k', s', n', a', ll, p', rfl⟩ := outN x
    obtain ⟨k2, s2, n2, a2, ll2, p2, rfl⟩ := outN q
    rw [nd_cells] at e hcall
    refine Lay.wp_of h38 (fun call => e38x2 call _ _ _ _ _ _ _ _ _ _ _ _ _ _ _ _ _ _ _ _ _ _ _ _ _ _ _ _) ?_
    unfold t38x2
    simp only [e, w, tw_nm, tw_ite, tw_opnS, openC_int, openC_str, openC_sl, openC_nil, tw_done, tw_need, tw_callT, avs_len]
    rw [if_pos (by simp; omega)]
    refine ⟨avs_low ll, strs_low p', avs_low ll, strs_low p', hcall _ ?_⟩
    simp only [Nd.av, s38x0, tw_needR, tw_needT, true_and, tw_nm, tw_need, tw_jump]
    exact ⟨avs_low ll2, strs_low p2, avs_sz _, rfl, by omega, hlow, avs_low L, next _ _ _ _ _ _ _ _ _ _ _ _ _ _ _ _ _ _ _⟩
end
mutual
theorem own_wp : ∀ (x : Nd) {K : Out → Prop}, x.nodes ≤ 1000000 → x.pok → K (.ret ((stripF x).av, .no), ⟨[], []⟩) → lay.Wp 16 0 x.av.cells K
  | .mk k s n a l p, K, hn, hp, h => by
    simp only [Nd.nodes] at hn
    have hln := nodesL_len l
    have hpl := hp.1
    rw [nd_cells]
    refine Lay.wp_of h16 (fun call => e16x0 call _ _ _ _ _ _) ?_
    unfold t16x0
    simp only [tw_nm, tw_ite, tw_needR, tw_needT, true_and, tw_need, tw_jump, avs_len, List.length_map]
    refine ⟨rfl, strs_sz p, by omega, ?_⟩
    cases p with
    | nil =>
      rw [if_pos (show (List.map AV.str ([] : List (List UInt8))).isEmpty = true from rfl)]
      exact ⟨rfl, rfl, own1 l l 0 rfl (by omega) (by omega) hp.2 k s n 0 [] _ _ _ _ _ _ _ _ _ _ _ h⟩
    | cons y r =>
      rw [if_neg (by simp)]
      exact ⟨rfl, strs_low (y :: r), own2 l l 0 rfl (by omega) (by omega) hp.2 k s n 0 (y :: r) _ _ _ _ _ _ _ _ _ _ _ h⟩
theorem own1 : ∀ (l L : List Nd) (i : Nat), l = L.drop i → L.length ≤ 1000000 → Nd.nodesL l ≤ 1000000 → Nd.pokL l → ∀ (k : Int) (s : List UInt8) (n a : Int) (p : List (List UInt8)) (x1 : Int) (x2 : List UInt8) (x3 : Int) (x4 : Int) (x6 : List AV) (y1 : Int) (y2 : List UInt8) (y3 : Int) (y4 : Int) (y5 : List AV) (y6 : List AV) {K : Out → Prop}, K (.ret ((Nd.mk k s n a (stripL l) p).av, .no), ⟨[], []⟩) →
    lay.Wp 16 1 [.int .i64 (i : Nat), .int .i64 x1, .str x2, .int .i64 x3, .int .i64 x4, .sl (Nd.avs L), .sl x6, .int .i64 y1, .str y2, .int .i64 y3, .int .i64 y4, .sl y5, .sl y6, .int .i64 k, .str s, .int .i64 n, .int .i64 a, .sl (Nd.avs []), .sl (p.map AV.str)] K
  | [], L, i, hl, hL, hn, hp, k, s, n, a, p, x1, x2, x3, x4, x6, y1, y2, y3, y4, y5, y6, K, h => by
    have hi : L.length ≤ i := List.drop_eq_nil_iff.1 hl.symm
    rw [stripL] at h
    refine Lay.wp_of h16 (fun call => e16x1 call _ _ _ _ _ _ _ _ _ _ _ _ _ _ _ _ _ _ _) ?_
    unfold t16x1
    simp only [tw_nm, tw_ite, tw_need, tw_done, avs_len]
    rw [if_neg (by simp; omega)]
    exact ⟨avs_low _, strs_low p, avs_low _, strs_low p, h⟩
  | x :: l, L, i, hl, hL, hn, hp, k, s, n, a, p, x1, x2, x3, x4, x6, y1, y2, y3, y4, y5, y6, K, h => by
    obtain ⟨hlt, hx, hl'⟩ := at_cons hl
    have e := elemAt_avs hlt
    rw [← hx] at e
    have w := next64 hlt (by omega)
    simp only [Nd.nodesL] at hn
    have hnp := nodes_pos x
    have hll := nodesL_len l
    have hcall := fun K' h' => own_wp x (K := K') (by omega) hp.1 h'
    rw [stripL] at h
    have next := fun (b : Bool) (x1 : Int) (x2 : List UInt8) (x3 : Int) (x4 : Int) (x6 : List AV) (y1 : Int) (y2 : List UInt8) (y3 : Int) (y4 : Int) (y5 : List AV) (y6 : List AV) (z1 : Int) (z2 : List UInt8) (z3 : Int) (z4 : Int) (z5 : List AV) (z6 : List AV) => own3 l L (i + 1) ([] ++ [stripF x]) hl' hL (by simp; omega) (by omega) hp.2 k s n a p b x1 x2 x3 x4 x6 y1 y2 y3 y4 y5 y6 z1 z2 z3 z4 z5 z6 (K := K) (by simpa using h)
    have hlow := avs_low ([] ++ [stripF x])
    rw [← avs_append] at hlow
    simp only [← avs_append] at next
    generalize stripF x = q at *
    obtain ⟨k', s', n', a', ll, p', rfl⟩ := outN x
    obtain ⟨k2, s2, n2, a2, ll2, p2, rfl⟩ := outN q
    rw [nd_cells] at e hcall
    refine Lay.wp_of h16 (fun call => e16x1 call _ _ _ _ _ _ _ _ _ _ _ _ _ _ _ _ _ _ _) ?_
    unfold t16x1
    simp only [e, w, tw_nm, tw_ite, tw_opnS, openC_int, openC_str, openC_sl, openC_nil, tw_done, tw_need, tw_callT, avs_len]
    rw [if_pos (by simp; omega)]
    refine ⟨avs_low ll, strs_low p', hcall _ ?_⟩
    simp only [Nd.av, s16x0, tw_needR, tw_needT, true_and, tw_nm, tw_need, tw_jump]
    exact ⟨avs_low ll2, strs_low p2, avs_low ll2, strs_low p2, avs_sz _, rfl, by simp only [List.length_nil]; omega, hlow, next _ _ _ _ _ _ _ _ _ _ _ _ _ _ _ _ _ _⟩
theorem own2 : ∀ (l L : List Nd) (i : Nat), l = L.drop i → L.length ≤ 1000000 → Nd.nodesL l ≤ 1000000 → Nd.pokL l → ∀ (k : Int) (s : List UInt8) (n a : Int) (p : List (List UInt8)) (x1 : Int) (x2 : List UInt8) (x3 : Int) (x4 : Int) (x6 : List AV) (y1 : Int) (y2 : List UInt8) (y3 : Int) (y4 : Int) (y5 : List AV) (y6 : List AV) {K : Out → Prop}, K (.ret ((Nd.mk k s n a (stripL l) p).av, .no), ⟨[], []⟩) →
    lay.Wp 16 2 [.int .i64 (i : Nat), .int .i64 x1, .str x2, .int .i64 x3, .int .i64 x4, .sl (Nd.avs L), .sl x6, .int .i64 y1, .str y2, .int .i64 y3, .int .i64 y4, .sl y5, .sl y6, .int .i64 k, .str s, .int .i64 n, .int .i64 a, .sl (Nd.avs []), .sl (p.map AV.str)] K
  | [], L, i, hl, hL, hn, hp, k, s, n, a, p, x1, x2, x3, x4, x6, y1, y2, y3, y4, y5, y6, K, h => by
    have hi : L.length ≤ i := List.drop_eq_nil_iff.1 hl.symm
    rw [stripL] at h
    refine Lay.wp_of h16 (fun call => e16x2 call _ _ _ _ _ _ _ _ _ _ _ _ _ _ _ _ _ _ _) ?_
    unfold t16x2
    simp only [tw_nm, tw_ite, tw_need, tw_done, avs_len]
    rw [if_neg (by simp; omega)]
    exact ⟨avs_low _, strs_low p, avs_low _, strs_low p, h⟩
  | x :: l, L, i, hl, hL, hn, hp, k, s, n, a, p, x1, x2, x3, x4, x6, y1, y2, y3, y4, y5, y6, K, h => by
    obtain ⟨hlt, hx, hl'⟩ := at_cons hl
    have e := elemAt_avs hlt
    rw [← hx] at e
    have w := next64 hlt (by omega)
    simp only [Nd.nodesL] at hn
    have hnp := nodes_pos x
    have hll := nodesL_len l
    have hcall := fun K' h' => own_wp x (K := K') (by omega) hp.1 h'
    rw [stripL] at h
    have next := fun (b : Bool) (x1 : Int) (x2 : List UInt8) (x3 : Int) (x4 : Int) (x6 : List AV) (y1 : Int) (y2 : List UInt8) (y3 : Int) (y4 : Int) (y5 : List AV) (y6 : List AV) (z1 : Int) (z2 : List UInt8) (z3 : Int) (z4 : Int) (z5 : List AV) (z6 : List AV) => own4 l L (i + 1) ([] ++ [stripF x]) hl' hL (by simp; omega) (by omega) hp.2 k s n a p b x1 x2 x3 x4 x6 y1 y2 y3 y4 y5 y6 z1 z2 z3 z4 z5 z6 (K := K) (by simpa using h)
    have hlow := avs_low ([] ++ [stripF x])
    rw [← avs_append] at hlow
    simp only [← avs_append] at next
    generalize stripF x = q at *
    obtain ⟨k', s', n', a', ll, p', rfl⟩ := outN x
    obtain ⟨k2, s2, n2, a2, ll2, p2, rfl⟩ := outN q
    rw [nd_cells] at e hcall
    refine Lay.wp_of h16 (fun call => e16x2 call _ _ _ _ _ _ _ _ _ _ _ _ _ _ _ _ _ _ _) ?_
    unfold t16x2
    simp only [e, w, tw_nm, tw_ite, tw_opnS, openC_int, openC_str, openC_sl, openC_nil, tw_done, tw_need, tw_callT, avs_len]
    rw [if_pos (by simp; omega)]
    refine ⟨avs_low ll, strs_low p', hcall _ ?_⟩
    simp only [Nd.av, s16x0, tw_needR, tw_needT, true_and, tw_nm, tw_need, tw_jump]
    exact ⟨avs_low ll2, strs_low p2, avs_low ll2, strs_low p2, avs_sz _, rfl, by simp only [List.length_nil]; omega, hlow, next _ _ _ _ _ _ _ _ _ _ _ _ _ _ _ _ _ _⟩
theorem own3 : ∀ (l L : List Nd) (i : Nat) (acc : List Nd), l = L.drop i → L.length ≤ 1000000 → acc.length + l.length ≤ 1000000 → Nd.nodesL l ≤ 1000000 → Nd.pokL l → ∀ (k : Int) (s : List UInt8) (n a : Int) (p : List (List UInt8)) (b : Bool) (x1 : Int) (x2 : List UInt8) (x3 : Int) (x4 : Int) (x6 : List AV) (y1 : Int) (y2 : List UInt8) (y3 : Int) (y4 : Int) (y5 : List AV) (y6 : List AV) (z1 : Int) (z2 : List UInt8) (z3 : Int) (z4 : Int) (z5 : List AV) (z6 : List AV) {K : Out → Prop}, K (.ret ((Nd.mk k s n a (acc ++ stripL l) p).av, .no), ⟨[], []⟩) →
    lay.Wp 16 3 [.int .i64 (i : Nat), .bool b, .int .i64 x1, .str x2, .int .i64 x3, .int .i64 x4, .sl (Nd.avs L), .sl x6, .int .i64 y1, .str y2, .int .i64 y3, .int .i64 y4, .sl y5, .sl y6, .int .i64 k, .str s, .int .i64 n, .int .i64 a, .sl (Nd.avs acc), .sl (p.map AV.str), .int .i64 z1, .str z2, .int .i64 z3, .int .i64 z4, .sl z5, .sl z6] K
  | [], L, i, acc, hl, hL, ha, hn, hp, k, s, n, a, p, b, x1, x2, x3, x4, x6, y1, y2, y3, y4, y5, y6, z1, z2, z3, z4, z5, z6, K, h => by
    have hi : L.length ≤ i := List.drop_eq_nil_iff.1 hl.symm
    rw [stripL, List.append_nil] at h
    refine Lay.wp_of h16 (fun call => e16x3 call _ _ _ _ _ _ _ _ _ _ _ _ _ _ _ _ _ _ _ _ _ _ _ _ _ _) ?_
    unfold t16x3
    simp only [tw_nm, tw_ite, tw_need, tw_done, avs_len]
    rw [if_neg (by simp; omega)]
    exact ⟨avs_low _, strs_low p, avs_low _, strs_low p, h⟩
  | x :: l, L, i, acc, hl, hL, ha, hn, hp, k, s, n, a, p, b, x1, x2, x3, x4, x6, y1, y2, y3, y4, y5, y6, z1, z2, z3, z4, z5, z6, K, h => by
    obtain ⟨hlt, hx, hl'⟩ := at_cons hl
    have e := elemAt_avs hlt
    rw [← hx] at e
    have w := next64 hlt (by omega)
    simp only [Nd.nodesL] at hn
    simp only [List.length_cons] at ha
    have hnp := nodes_pos x
    have hll := nodesL_len l
    have hcall := fun K' h' => own_wp x (K := K') (by omega) hp.1 h'
    rw [stripL] at h
    have next := fun (b : Bool) (x1 : Int) (x2 : List UInt8) (x3 : Int) (x4 : Int) (x6 : List AV) (y1 : Int) (y2 : List UInt8) (y3 : Int) (y4 : Int) (y5 : List AV) (y6 : List AV) (z1 : Int) (z2 : List UInt8) (z3 : Int) (z4 : Int) (z5 : List AV) (z6 : List AV) => own3 l L (i + 1) (acc ++ [stripF x]) hl' hL (by simp; omega) (by omega) hp.2 k s n a p b x1 x2 x3 x4 x6 y1 y2 y3 y4 y5 y6 z1 z2 z3 z4 z5 z6 (K := K) (by simpa using h)
    have hlow := avs_low (acc ++ [stripF x])
    rw [← avs_append] at hlow
    simp only [← avs_append] at next
    generalize stripF x = q at *
    obtain ⟨k', s', n', a', ll, p', rfl⟩ := outN x
    obtain ⟨k2, s2, n2, a2, ll2, p2, rfl⟩ := outN q
    rw [nd_cells] at e hcall
    refine Lay.wp_of h16 (fun call => e16x3 call _ _ _ _ _ _ _ _ _ _ _ _ _ _ _ _ _ _ _ _ _ _ _ _ _ _) ?_
    unfold t16x3
    simp only [e, w, tw_nm, tw_ite, tw_opnS, openC_int, openC_str, openC_sl, openC_nil, tw_done, tw_need, tw_callT, avs_len]
    rw [if_pos (by simp; omega)]
    refine ⟨avs_low ll, strs_low p', hcall _ ?_⟩
    simp only [Nd.av, s16x0, tw_needR, tw_needT, true_and, tw_nm, tw_need, tw_jump]
    exact ⟨avs_low ll2, strs_low p2, avs_low ll2, strs_low p2, avs_sz _, rfl, by omega, hlow, next _ _ _ _ _ _ _ _ _ _ _ _ _ _ _ _ _ _⟩
theorem own4 : ∀ (l L : List Nd) (i : Nat) (acc : List Nd), l = L.drop i → L.length ≤ 1000000 → acc.length + l.length ≤ 1000000 → Nd.nodesL l ≤ 1000000 → Nd.pokL l → ∀ (k : Int) (s : List UInt8) (n a : Int) (p : List (List UInt8)) (b : Bool) (x1 : Int) (x2 : List UInt8) (x3 : Int) (x4 : Int) (x6 : List AV) (y1 : Int) (y2 : List UInt8) (y3 : Int) (y4 : Int) (y5 : List AV) (y6 : List AV) (z1 : Int) (z2 : List UInt8) (z3 : Int) (z4 : Int) (z5 : List AV) (z6 : List AV) {K : Out → Prop}, K (.ret ((Nd.mk k s n a (acc ++ stripL l) p).av, .no), ⟨[], []⟩) →
    lay.Wp 16 4 [.int .i64 (i : Nat), .bool b, .int .i64 x1, .str x2, .int .i64 x3, .int .i64 x4, .sl (Nd.avs L), .sl x6, .int .i64 y1, .str y2, .int .i64 y3, .int .i64 y4, .sl y5, .sl y6, .int .i64 k, .str s, .int .i64 n, .int .i64 a, .sl (Nd.avs acc), .sl (p.map AV.str), .int .i64 z1, .str z2, .int .i64 z3, .int .i64 z4, .sl z5, .sl z6] K
  | [], L, i, acc, hl, hL, ha, hn, hp, k, s, n, a, p, b, x1, x2, x3, x4, x6, y1, y2, y3, y4, y5, y6, z1, z2, z3, z4, z5, z6, K, h => by
    have hi : L.length ≤ i := List.drop_eq_nil_iff.1 hl.symm
    rw [stripL, List.append_nil] at h
    refine Lay.wp_of h16 (fun call => e16x4 call _ _ _ _ _ _ _ _ _ _ _ _ _ _ _ _ _ _ _ _ _ _ _ _ _ _) ?_
    unfold t16x4
    simp only [tw_nm, tw_ite, tw_need, tw_done, avs_len]
    rw [if_neg (by simp; omega)]
    exact ⟨avs_low _, strs_low p, avs_low _, strs_low p, h⟩
  | x :: l, L, i, acc, hl, hL, ha, hn, hp, k, s, n, a, p, b, x1, x2, x3, x4, x6, y1, y2, y3, y4, y5, y6, z1, z2, z3, z4, z5, z6, K, h => by
    obtain ⟨hlt, hx, hl'⟩ := at_cons hl
    have e := elemAt_avs hlt
    rw [← hx] at e
    have w := next64 hlt (by omega)
    simp only [Nd.nodesL] at hn
    simp only [List.length_cons] at ha
    have hnp := nodes_pos x
    have hll := nodesL_len l
    have hcall := fun K' h' => own_wp x (K := K') (by omega) hp.1 h'
    rw [stripL] at h
    have next := fun (b : Bool) (x1 : Int) (x2 : List UInt8) (x3 : Int) (x4 : Int) (x6 : List AV) (y1 : Int) (y2 : List UInt8) (y3 : Int) (y4 : Int) (y5 : List AV) (y6 : List AV) (z1 : Int) (z2 : List UInt8) (z3 : Int) (z4 : Int) (z5 : List AV) (z6 : List AV) => own4 l L (i + 1) (acc ++ [stripF x]) hl' hL (by simp; omega) (by omega) hp.2 k s n a p b x1 x2 x3 x4 x6 y1 y2 y3 y4 y5 y6 z1 z2 z3 z4 z5 z6 (K := K) (by simpa using h)
    have hlow := avs_low (acc ++ [stripF x])
    rw [← avs_append] at hlow
    simp only [← avs_append] at next
    generalize stripF x = q at *
    obtain ⟨k', s', n', a', ll, p', rfl⟩ := outN x
    obtain ⟨k2, s2, n2, a2, ll2, p2, rfl⟩ := outN q
    rw [nd_cells] at e hcall
    refine Lay.wp_of h16 (fun call => e16x4 call _ _ _ _ _ _ _ _ _ _ _ _ _ _ _ _ _ _ _ _ _ _ _ _ _ _) ?_
    unfold t16x4
    simp only [e, w, tw_nm, tw_ite, tw_opnS, openC_int, openC_str, openC_sl, openC_nil, tw_done, tw_need, tw_callT, avs_len]
    rw [if_pos (by simp; omega)]
    refine ⟨avs_low ll, strs_low p', hcall _ ?_⟩
    simp only [Nd.av, s16x0, tw_needR, tw_needT, true_and, tw_nm, tw_need, tw_jump]
    exact ⟨avs_low ll2, strs_low p2, avs_low ll2, strs_low p2, avs_sz _, rfl, by omega, hlow, next _ _ _ _ _ _ _ _ _ _ _ _ _ _ _ _ _ _⟩
end
end Go.Proofs.YtdiphholophdcabGreatDoor.T
end
section
open Go Go.Ab
/- THE LAW's PART OF ShowSame. -/
namespace Go.Proofs.YtdiphholophdcabGreatDoor.T
variable {K : Out → Prop}
mutual
theorem sameF_refl (w : Bool) : ∀ x : Nd, sameF w x x = true
  | .mk k s n a l p => by simp [sameF, sameL_refl w l]
theorem sameL_refl (w : Bool) : ∀ l : List Nd, sameL w l l = true
  | [] => rfl
  | x :: r => by rw [sameL, sameF_refl w x, sameL_refl w r]; rfl
end
mutual
theorem strip_nodes : ∀ x : Nd, (stripF x).nodes = x.nodes
  | .mk k s n a l p => by simp [stripF, Nd.nodes, strip_nodesL l]
theorem strip_nodesL : ∀ l : List Nd, Nd.nodesL (stripL l) = Nd.nodesL l
  | [] => rfl
  | x :: r => by simp [stripL, Nd.nodesL, strip_nodes x, strip_nodesL r]
end
mutual
theorem strip_pok : ∀ x : Nd, x.pok → (stripF x).pok
  | .mk k s n a l p, h => ⟨h.1, strip_pokL l h.2⟩
theorem strip_pokL : ∀ l : List Nd, Nd.pokL l → Nd.pokL (stripL l)
  | [], _ => trivial
  | x :: r, h => ⟨strip_pok x h.1, strip_pokL r h.2⟩
end
theorem stripP_wp {x : Nd} (hn : x.nodes ≤ 1000000) (hp : x.pok) (h : K (.ret ((stripF x).av, .no), ⟨[], []⟩)) : lay.Wp 15 0 x.av.cells K := by
  have hc := fun K' h' => strip_wp x (K := K') hn hp h'
  generalize stripF x = q at *
  obtain ⟨k, s, n, a, l, p, rfl⟩ := outN x
  obtain ⟨k2, s2, n2, a2, l2, p2, rfl⟩ := outN q
  rw [nd_cells] at *
  refine Lay.wp_of h15 (fun call => e15x0 call _ _ _ _ _ _) ?_
  unfold t15x0
  simp only [tw_need, tw_callT]
  refine ⟨avs_low l, strs_low p, hc _ ?_⟩
  simp only [Nd.av, s38x0, tw_needR, tw_needT, true_and, tw_need, tw_done]
  exact ⟨avs_low l2, strs_low p2, avs_low l2, strs_low p2, avs_low l2, strs_low p2, h⟩
theorem showSame_wp (x y : Nd) (hx : x.pok) (hy : y.pok) : lay.Wp 4 0 (x.av.cells ++ y.av.cells) fun o => o = (.ret (.bool true, .no), ⟨[], []⟩) := by
  have q1 := fun K' h' => small_wp (x := x) (K := K') h'
  have q2 := fun K' h' => small_wp (x := y) (K := K') h'
  have q3 := fun (hn : x.nodes ≤ 3000) K' h' => sameP_wp (x := x) (y := y) (K := K') (by omega) hx h'
  have q4 := fun (hn : x.nodes ≤ 3000) K' h' => sameR_wp x y false (K := K') (by omega) hx h'
  have q5 := fun (hn : x.nodes ≤ 3000) K' h' => stripP_wp (x := x) (K := K') (by omega) hx h'
  have q6 := fun (hn : x.nodes ≤ 3000) K' h' => own_wp x (K := K') (by omega) hx h'
  have q7 := fun (hn : x.nodes ≤ 3000) K' h' => sameR_wp (stripF x) (stripF x) true (K := K') (by rw [strip_nodes]; omega) (strip_pok x hx) h'
  rw [sameF_refl] at q7
  generalize sameF false x y = q at *
  generalize stripF x = z at *
  generalize x.nodes = nx at *
  generalize y.nodes = ny at *
  clear hx hy
  obtain ⟨k, s, n, a, l, p, rfl⟩ := outN x
  obtain ⟨k2, s2, n2, a2, l2, p2, rfl⟩ := outN y
  obtain ⟨k3, s3, n3, a3, l3, p3, rfl⟩ := outN z
  simp only [nd_cells] at *
  have g1 := avs_low l; have g2 := strs_low p; have g3 := avs_low l2; have g4 := strs_low p2; have g5 := avs_low l3; have g6 := strs_low p3
  refine Lay.wp_of h4 (fun call => e4x0 call _ _ _ _ _ _ _ _ _ _ _ _) ?_
  unfold t4x0
  simp only [tw_need, tw_callT]
  refine ⟨g1, g2, q1 _ fun b hb => ?_⟩
  cases b
  · simp only [s9x0, Bool.not_false, tw_needR, tw_needT, true_and, tw_nm, tw_iteT, tw_done]
  have hn := hb rfl
  simp only [s9x0, Bool.not_true, tw_needR, tw_needT, true_and, tw_nm, tw_iteF, tw_need, tw_callT]
  refine ⟨g3, g4, q2 _ fun b2 hb2 => ?_⟩
  cases b2
  · simp only [s9x0, Bool.not_false, tw_needR, tw_needT, true_and, tw_nm, tw_iteT, tw_done]
  simp only [s9x0, Bool.not_true, tw_needR, tw_needT, true_and, tw_nm, tw_iteF, tw_need, tw_callT]
  refine ⟨g1, g2, g3, g4, q3 hn _ ?_⟩
  simp only [s13x0, tw_needR, tw_needT, true_and, tw_need, tw_callT]
  refine ⟨g1, g2, g3, g4, q4 hn _ ?_⟩
  have zq : (q == q) = true := beq_self_eq_true q
  simp only [s14x0, zq, tw_needR, tw_needT, true_and, tw_nm, tw_iteT, tw_need, tw_callT]
  refine ⟨g1, g2, q5 hn _ ?_⟩
  simp only [Nd.av, s15x0, tw_needR, tw_needT, true_and, tw_need, tw_callT]
  refine ⟨g5, g6, g1, g2, q6 hn _ ?_⟩
  simp only [Nd.av, s16x0, tw_needR, tw_needT, true_and, tw_need, tw_callT]
  refine ⟨g5, g6, g5, g6, g5, g6, q7 hn _ ?_⟩
  simp only [s14x0, tw_needR, tw_needT, true_and, tw_iteT, tw_need, tw_done]
  first | exact ⟨rfl, rfl, rfl, rfl⟩ | exact ⟨rfl, rfl, rfl, trivial⟩
end Go.Proofs.YtdiphholophdcabGreatDoor.T
end
section
open Go Go.Ab
/- A TREE AS AN ARGUMENT. -/
namespace Go.Proofs.YtdiphholophdcabGreatDoor.T
theorem cells25 : Tryz.prog.cellsOf 25 = 6 := by kernel_rfl
theorem cells3 : Tryz.prog.cellsOf 3 = 1 := by kernel_rfl
theorem cells2 : Tryz.prog.cellsOf 2 = 1 := by kernel_rfl
theorem cells9 : Tryz.prog.cellsOf 9 = 1 := by kernel_rfl
theorem cells22 : Tryz.prog.cellsOf 22 = 1 := by kernel_rfl
theorem cells23 : Tryz.prog.cellsOf 23 = 1 := by kernel_rfl
theorem bytes9 : Tryz.prog.bytesOf 9 = 16 := by kernel_rfl
/-- a tree's cells -/
def NdAt (W : World) (x : Nd) (cs : List Value) : Prop := match x with
  | .mk k s n a l p => ∃ v u, cs = [.int .i64 k, .string ⟨⟨s⟩⟩, .int .i64 n, .int .i64 a, v, u] ∧ R (ghost0 W) (.sl (Nd.avs l)) v ∧ v.oneCell' = true ∧ R (ghost0 W) (.sl (p.map AV.str)) u ∧ u.oneCell' = true
theorem NdAt.len {W : World} {x : Nd} {cs : List Value} (h : NdAt W x cs) : cs.length = 6 := by
  obtain ⟨k, s, n, a, l, p, rfl⟩ := outN x
  obtain ⟨v, u, rfl, _⟩ := h
  rfl
theorem NdAt.cell {W : World} {x : Nd} {cs : List Value} (h : NdAt W x cs) : ∀ i (h1 : i < x.av.cells.length) (h2 : i < cs.length), R (ghost0 W) x.av.cells[i] cs[i] ∧ cs[i].oneCell' = true := by
  obtain ⟨k, s, n, a, l, p, rfl⟩ := outN x
  obtain ⟨v, u, rfl, hv, h1, hu, h2⟩ := h
  intro i p q
  simp only [List.length_cons, List.length_nil] at q
  match i, q with
  | 0, _ => exact ⟨.int _ _, rfl⟩
  | 1, _ => exact ⟨.str _, rfl⟩
  | 2, _ => exact ⟨.int _ _, rfl⟩
  | 3, _ => exact ⟨.int _ _, rfl⟩
  | 4, _ => exact ⟨hv, h1⟩
  | 5, _ => exact ⟨hu, h2⟩
theorem av_cells_len (x : Nd) : x.av.cells.length = 6 := by
  obtain ⟨k, s, n, a, l, p, rfl⟩ := outN x
  rfl
theorem avs_cells (l : List Nd) : ∀ x ∈ Nd.avs l, x.cells.length = 6 := by
  rw [avs_map]
  intro x hx
  obtain ⟨y, _, rfl⟩ := List.mem_map.1 hx
  exact av_cells_len y
theorem fl_avs : ∀ (l : List Nd) (i j : Nat) (h : i < l.length) (hj : j < 6), (fl (Nd.avs l))[i * 6 + j]? = l[i].av.cells[j]?
  | x :: r, 0, j, h, hj => by
    rw [avs_map, List.map_cons, fl_cons, List.getElem?_append_left (by rw [av_cells_len]; omega)]
    simp
  | x :: r, i + 1, j, h, hj => by
    have ih := fl_avs r i j (by simpa using h) hj
    rw [avs_map] at ih ⊢
    rw [List.map_cons, fl_cons, List.getElem?_append_right (by rw [av_cells_len]; omega), av_cells_len, List.getElem_cons_succ, ← ih]
    congr 1; omega
theorem spot_none {W : World} {a : Addr} {n : Nat} {cs : List Value} (h : W.cells? 0 (a.add 0) (n + 1) = some cs) : a.spot = none := by
  obtain ⟨_, hl, hc⟩ := World.cells?_some h
  have h0 := hc 0 (by omega)
  have e : (a.add 0).add 0 = a := rfl
  rw [e, List.getElem?_eq_getElem (by omega)] at h0
  unfold World.cell? at h0
  split at h0
  · split at h0
    · cases h0
    · rename_i hs; simpa using hs
  · cases h0
section
variable {H : Type} {enc : TypeId × Value → H} {W : World}
theorem nd_list {n len : Nat} {a : Addr} {el : Nat → DataW H × List MemPlace}
    (ih : ∀ cs y, DataW.trod enc Tryz.prog W 0 (fun _ => true) true n 25 cs = some y → (∀ m ∈ DataW.weights Tryz.prog 25 y.1, m ≤ reachBytes) → ∃ x : Nd, x.pok ∧ NdAt W x cs)
    (hw : ∀ i, i < len → ∀ m ∈ DataW.weights Tryz.prog 25 (el i).1, m ≤ reachBytes)
    (h : ∀ i, i < len → ∃ cs, W.cells? 0 (a.add (i * 6)) 6 = some cs ∧ DataW.trod enc Tryz.prog W 0 (fun _ => true) true n 25 cs = some (el i)) :
    ∃ l : List Nd, l.length = len ∧ Nd.pokL l ∧ ∀ i (h : i < l.length), ∃ cs, W.cells? 0 (a.add (i * 6)) 6 = some cs ∧ NdAt W l[i] cs := by
  have wapp : ∀ (l : List Nd) (x : Nd), Nd.pokL l → x.pok → Nd.pokL (l ++ [x]) := by
    intro l
    induction l with
    | nil => exact fun x _ hx => ⟨hx, trivial⟩
    | cons y l ihl => exact fun x hl hx => ⟨hl.1, ihl x hl.2 hx⟩
  induction len with
  | zero => exact ⟨[], rfl, trivial, fun i h => absurd h (by simp)⟩
  | succ m ihm =>
    obtain ⟨l, hl, hp, hc⟩ := ihm (fun i hi => hw i (by omega)) fun i hi => h i (by omega)
    obtain ⟨cs, h1, h2⟩ := h m (by omega)
    obtain ⟨x, hx, hr⟩ := ih cs _ h2 (hw m (by omega))
    refine ⟨l ++ [x], by simp [hl], wapp l x hp hx, fun i hi => ?_⟩
    by_cases e : i < l.length
    · rw [List.getElem_append_left e]
      exact hc i e
    · obtain rfl : i = m := by simp at hi; omega
      rw [List.getElem_append_right (by omega)]
      simp only [hl, Nat.sub_self, List.getElem_cons_zero]
      exact ⟨cs, h1, hr⟩
theorem nd_slice {len cap : Nat} {a : Addr} (ha : a.spot = none) (hc : len ≤ cap) {l : List Nd} (hl : l.length = len)
    (h : ∀ i (h : i < l.length), ∃ cs, W.cells? 0 (a.add (i * 6)) 6 = some cs ∧ NdAt W l[i] cs) : R (ghost0 W) (.sl (Nd.avs l)) (.slice (some a) len cap) := by
  obtain ⟨blk, off, sp⟩ := a
  simp only at ha
  subst ha
  subst hl
  have hlen : (fl (Nd.avs l)).length = l.length * 6 := by rw [fl_length (avs_cells l), avs_len]
  have key : ∀ i, i < (fl (Nd.avs l)).length → ∃ v, W.cell? ⟨blk, off + i, none⟩ = some v ∧ (∀ h : i < (fl (Nd.avs l)).length, R (ghost0 W) (fl (Nd.avs l))[i] v) ∧ v.oneCell' = true := by
    intro i hi
    have hq : i / 6 < l.length := by omega
    obtain ⟨cs, h1, h2⟩ := h (i / 6) hq
    obtain ⟨_, h3, h4⟩ := World.cells?_some h1
    have h5 := h4 (i % 6) (by omega)
    have ea : ((⟨blk, off, none⟩ : Addr).add (i / 6 * 6)).add (i % 6) = ⟨blk, off + i, none⟩ := by
      unfold Addr.add
      have : i / 6 * 6 + i % 6 = i := by omega
      split <;> split <;> simp_all <;> omega
    rw [ea, List.getElem?_eq_getElem (by omega)] at h5
    have hcell := h2.cell (i % 6) (by rw [av_cells_len]; omega) (by omega)
    refine ⟨_, h5, fun hh => ?_, hcell.2⟩
    have hf := fl_avs l (i / 6) (i % 6) hq (by omega)
    have hi8 : i / 6 * 6 + i % 6 = i := by omega
    rw [hi8, List.getElem?_eq_getElem hh, List.getElem?_eq_getElem (by rw [av_cells_len]; omega)] at hf
    rw [Option.some.inj hf]
    exact hcell.1
  have hav : (Nd.avs l).length = l.length := avs_len l
  rw [← hav]
  refine .sl 6 (Nd.avs l) blk off cap (fun i => (W.cell? ⟨blk, off + i, none⟩).getD Go.undef) (avs_cells l) (by rw [hav]; exact hc) (fun i hi => ?_) (fun i hi => ?_) (fun i hi => ?_)
  · obtain ⟨v, h1, _⟩ := key i hi
    show W.cell? ⟨blk, off + i, none⟩ = some ((W.cell? ⟨blk, off + i, none⟩).getD Go.undef)
    rw [h1]; rfl
  · obtain ⟨v, h1, h2, _⟩ := key i hi
    simp only [h1, Option.getD_some]
    exact h2 hi
  · obtain ⟨v, h1, _, h3⟩ := key i hi
    simp only [h1, Option.getD_some]
    exact h3
/-- a slice of texts -/
theorem strs_slice {len cap : Nat} {a : Addr} (ha : a.spot = none) (hc : len ≤ cap) (h : ∀ i, i < len → ∃ s : ByteArray, W.cells? 0 (a.add (i * 1)) 1 = some [.string s]) :
    ∃ p : List (List UInt8), p.length = len ∧ R (ghost0 W) (.sl (p.map AV.str)) (.slice (some a) len cap) := by
  obtain ⟨blk, off, sp⟩ := a
  simp only at ha
  subst ha
  have hcell : ∀ i, i < len → ∃ s : ByteArray, W.cell? ⟨blk, off + i, none⟩ = some (.string s) := by
    intro i hi
    obtain ⟨s, h1⟩ := h i hi
    obtain ⟨_, h3, h4⟩ := World.cells?_some h1
    have h5 := h4 0 (by omega)
    have ea : ((⟨blk, off, none⟩ : Addr).add (i * 1)).add 0 = ⟨blk, off + i, none⟩ := by
      unfold Addr.add
      split <;> split <;> simp_all
    rw [ea] at h5
    exact ⟨s, h5⟩
  have key : ∃ p : List (List UInt8), p.length = len ∧ ∀ i (h : i < p.length), W.cell? ⟨blk, off + i, none⟩ = some (.string ⟨⟨p[i]⟩⟩) := by
    clear h hc
    induction len with
    | zero => exact ⟨[], rfl, fun i h => absurd h (by simp)⟩
    | succ m ih =>
      obtain ⟨p, hp, hq⟩ := ih fun i hi => hcell i (by omega)
      obtain ⟨s, hs⟩ := hcell m (by omega)
      refine ⟨p ++ [s.data.toList], by simp [hp], fun i hi => ?_⟩
      by_cases e : i < p.length
      · rw [List.getElem_append_left e]
        exact hq i e
      · obtain rfl : i = m := by simp at hi; omega
        rw [List.getElem_append_right (by omega)]
        simp only [hp, Nat.sub_self, List.getElem_cons_zero]
        exact hs
  obtain ⟨p, hp, hq⟩ := key
  refine ⟨p, hp, ?_⟩
  have hlen : (p.map AV.str).length = p.length := by simp
  subst hp
  rw [← hlen]
  refine .sl 1 _ blk off cap (fun i => .string ⟨⟨p.getD i []⟩⟩) (fun x hx => ?_) (by rw [hlen]; exact hc) (fun i hi => ?_) (fun i hi => ?_) (fun i hi => rfl)
  · obtain ⟨s, _, rfl⟩ := List.mem_map.1 hx
    rfl
  · rw [fl_strs, hlen] at hi
    have := hq i hi
    show W.cell? ⟨blk, off + i, none⟩ = _
    rw [this]
    simp [List.getD, hi]
  · have hi2 := hi
    rw [fl_strs, hlen] at hi2
    have e : (fl (p.map AV.str))[i] = AV.str (p.getD i []) := by simp [fl_strs, List.getD, hi2]
    rw [e]
    exact .str _
theorem all_mem {l : List (DataW H)} {e : TypeId} {d : DataW H} {m : Nat} (hd : d ∈ l) (hm : m ∈ DataW.weights Tryz.prog e d) : m ∈ DataW.weightsAll Tryz.prog e l := by
  induction l with
  | nil => cases hd
  | cons x r ih =>
    simp only [DataW.weightsAll, List.mem_append]
    rcases List.mem_cons.1 hd with rfl | hd
    · exact .inl hm
    · exact .inr (ih hd)
set_option maxRecDepth 100000 in
theorem nd_open : ∀ (fuel : Nat) (cs : List Value) (y : DataW H × List MemPlace), DataW.trod enc Tryz.prog W 0 (fun _ => true) true fuel 25 cs = some y → (∀ m ∈ DataW.weights Tryz.prog 25 y.1, m ≤ reachBytes) → ∃ x : Nd, x.pok ∧ NdAt W x cs := by
  intro fuel
  induction fuel using Nat.strongRecOn with
  | _ fuel ih =>
    intro cs y h hwt
    obtain ⟨xs, n, rfl, hy, hcl, hxl, hf⟩ := DataW.trod_struct Tryz.underlying25 h
    rw [cells25] at hcl
    have hxl : xs.length = 6 := hxl
    subst hy
    have some' : ∀ i, i < 6 → ∃ z, xs[i]? = some z := fun i hi => ⟨xs[i]'(by omega), List.getElem?_eq_getElem _⟩
    match cs, hcl with
    | [c0, c1, c2, c3, c4, c5], _ =>
      obtain ⟨z0, e0⟩ := some' 0 (by omega)
      obtain ⟨z1, e1⟩ := some' 1 (by omega)
      obtain ⟨z2, e2⟩ := some' 2 (by omega)
      obtain ⟨z3, e3⟩ := some' 3 (by omega)
      obtain ⟨z4, e4⟩ := some' 4 (by omega)
      obtain ⟨z5, e5⟩ := some' 5 (by omega)
      have g0 : DataW.trod enc Tryz.prog W 0 (fun _ => true) true n 3 [c0] = xs[0]? := by
        have q : DataW.trod enc Tryz.prog W 0 (fun _ => true) true n 3 (([c0, c1, c2, c3, c4, c5].drop 0).take (Tryz.prog.cellsOf 3)) = xs[0]? := hf 0 _ rfl
        rw [cells3] at q
        exact q
      have g1 : DataW.trod enc Tryz.prog W 0 (fun _ => true) true n 9 [c1] = xs[1]? := by
        have q : DataW.trod enc Tryz.prog W 0 (fun _ => true) true n 9 (([c0, c1, c2, c3, c4, c5].drop 1).take (Tryz.prog.cellsOf 9)) = xs[1]? := hf 1 _ rfl
        rw [cells9] at q
        exact q
      have g2 : DataW.trod enc Tryz.prog W 0 (fun _ => true) true n 2 [c2] = xs[2]? := by
        have q : DataW.trod enc Tryz.prog W 0 (fun _ => true) true n 2 (([c0, c1, c2, c3, c4, c5].drop 2).take (Tryz.prog.cellsOf 2)) = xs[2]? := hf 2 _ rfl
        rw [cells2] at q
        exact q
      have g3 : DataW.trod enc Tryz.prog W 0 (fun _ => true) true n 3 [c3] = xs[3]? := by
        have q : DataW.trod enc Tryz.prog W 0 (fun _ => true) true n 3 (([c0, c1, c2, c3, c4, c5].drop 3).take (Tryz.prog.cellsOf 3)) = xs[3]? := hf 3 _ rfl
        rw [cells3] at q
        exact q
      have g4 : DataW.trod enc Tryz.prog W 0 (fun _ => true) true n 22 [c4] = xs[4]? := by
        have q : DataW.trod enc Tryz.prog W 0 (fun _ => true) true n 22 (([c0, c1, c2, c3, c4, c5].drop 4).take (Tryz.prog.cellsOf 22)) = xs[4]? := hf 4 _ rfl
        rw [cells22] at q
        exact q
      have g5 : DataW.trod enc Tryz.prog W 0 (fun _ => true) true n 23 [c5] = xs[5]? := by
        have q : DataW.trod enc Tryz.prog W 0 (fun _ => true) true n 23 (([c0, c1, c2, c3, c4, c5].drop 5).take (Tryz.prog.cellsOf 23)) = xs[5]? := hf 5 _ rfl
        rw [cells23] at q
        exact q
      rw [e0] at g0
      rw [e1] at g1
      rw [e2] at g2
      rw [e3] at g3
      rw [e4] at g4
      rw [e5] at g5
      have hxs : xs = [z0, z1, z2, z3, z4, z5] := by
        match xs, hxl, e0, e1, e2, e3, e4, e5 with
        | [a0, a1, a2, a3, a4, a5], _, e0, e1, e2, e3, e4, e5 => simp at e0 e1 e2 e3 e4 e5; rw [e0, e1, e2, e3, e4, e5]
      subst hxs
      have hwL : ∀ m ∈ DataW.weights Tryz.prog 22 z4.1, m ≤ reachBytes := fun m hm => hwt m (by
        unfold DataW.weights
        rw [Tryz.underlying25]
        simp only [List.map_cons, List.map_nil, DataW.weightsEach, List.mem_append]
        exact .inr (.inr (.inr (.inr (.inl hm)))))
      have hwP : ∀ m ∈ DataW.weights Tryz.prog 23 z5.1, m ≤ reachBytes := fun m hm => hwt m (by
        unfold DataW.weights
        rw [Tryz.underlying25]
        simp only [List.map_cons, List.map_nil, DataW.weightsEach, List.mem_append]
        exact .inr (.inr (.inr (.inr (.inr (.inl hm))))))
      obtain ⟨k, hk, _, _⟩ := DataW.trod_int Tryz.underlying3 g0
      obtain ⟨s, hs, _, _⟩ := DataW.trod_string Tryz.underlying9 g1
      obtain ⟨nn, hnn, _, _⟩ := DataW.trod_int Tryz.underlying2 g2
      obtain ⟨pl, hpl, _, _⟩ := DataW.trod_int Tryz.underlying3 g3
      cases hk; cases hs; cases hnn; cases hpl
      have texts : ∃ p : List (List UInt8), p.length ≤ 8796093022208 ∧ R (ghost0 W) (.sl (p.map AV.str)) c5 ∧ c5.oneCell' = true := by
        rcases DataW.trod_slice Tryz.underlying23 g5 with ⟨hs, _⟩ | ⟨ad, len, cap, elems, rest, q, hq, hs, hz, _, hle, _, hel, hall, hsp, _⟩
        · cases hs
          exact ⟨[], by decide, .nils none, rfl⟩
        · cases hs
          rw [cells9] at hall hsp
          have hsp := hsp rfl
          have hone : ∀ i, i < len → ∃ s : ByteArray, W.cells? 0 (ad.add (i * 1)) 1 = some [.string s] := by
            intro i hi
            have := hall i hi
            rw [List.getElem?_eq_getElem (by omega)] at this
            obtain ⟨cs', h1, h2⟩ := Option.bind_eq_some_iff.1 this
            obtain ⟨s, rfl, _⟩ := DataW.trod_string Tryz.underlying9 h2
            exact ⟨s, h1⟩
          have hlen : len ≤ 8796093022208 := by
            have := hwP ((elems.length + rest.length) * 16) (by
              rw [hz]
              simp only [DataW.weights, Tryz.underlying23, List.length_map, bytes9]
              exact List.mem_cons_self ..)
            have hrb : reachBytes = 140737488351232 := rfl
            omega
          by_cases z : cap = 0
          · obtain rfl : len = 0 := by omega
            subst z
            exact ⟨[], by decide, .nils _, rfl⟩
          · have hspot : ad.spot = none := by
              by_cases z1 : len = 0
              · subst z1
                have := hsp.2 0 (by omega)
                rw [List.getElem?_eq_getElem (by omega)] at this
                obtain ⟨cs', h1, _⟩ := Option.bind_eq_some_iff.1 this
                rw [Nat.add_zero, Nat.zero_mul] at h1
                exact spot_none h1
              · obtain ⟨s', h1⟩ := hone 0 (by omega)
                rw [Nat.zero_mul] at h1
                exact spot_none h1
            obtain ⟨p, hp, hr⟩ := strs_slice hspot hle hone
            exact ⟨p, by omega, hr, rfl⟩
      obtain ⟨p, hp, hpr, hp1⟩ := texts
      have fin (l : List Nd) (hl : Nd.pokL l) (hr : R (ghost0 W) (.sl (Nd.avs l)) c4) (h1 : c4.oneCell' = true) : ∃ x : Nd, x.pok ∧ NdAt W x [.int .i64 k, .string s, .int .i64 nn, .int .i64 pl, c4, c5] :=
        ⟨.mk k s.data.toList nn pl l p, ⟨hp, hl⟩, c4, c5, rfl, hr, h1, hpr, hp1⟩
      rcases DataW.trod_slice Tryz.underlying22 g4 with ⟨hs, _⟩ | ⟨ad, len, cap, elems, rest, q, hq, hs, hz, _, hle, _, hel, hall, hsp, _⟩
      · cases hs
        exact fin [] trivial (.nils none) rfl
      · cases hs
        rw [cells25] at hall hsp
        have hsp := hsp rfl
        have hone : ∀ i, i < len → ∃ cs, W.cells? 0 (ad.add (i * 6)) 6 = some cs ∧ DataW.trod enc Tryz.prog W 0 (fun _ => true) true q 25 cs = some (elems.getD i (.nil, [])) := by
          intro i hi
          have := hall i hi
          rw [List.getElem?_eq_getElem (by omega)] at this
          obtain ⟨cs', h1, h2⟩ := Option.bind_eq_some_iff.1 this
          refine ⟨cs', h1, ?_⟩
          rw [h2]
          simp [List.getD, List.getElem?_eq_getElem (show i < elems.length by omega)]
        have hwe : ∀ i, i < len → ∀ m ∈ DataW.weights Tryz.prog 25 (elems.getD i (.nil, [])).1, m ≤ reachBytes := by
          intro i hi m hm
          refine hwL m ?_
          rw [hz]
          simp only [DataW.weights, Tryz.underlying22]
          refine List.mem_cons_of_mem _ (List.mem_append_left _ (all_mem (d := (elems.getD i (.nil, [])).1) ?_ hm))
          have hi2 : i < elems.length := by omega
          simp only [List.getD, List.getElem?_eq_getElem hi2, Option.getD_some]
          exact List.mem_map_of_mem (List.getElem_mem _)
        by_cases z : cap = 0
        · obtain rfl : len = 0 := by omega
          subst z
          exact fin [] trivial (.nils _) rfl
        · have hspot : ad.spot = none := by
            by_cases z1 : len = 0
            · subst z1
              have := hsp.2 0 (by omega)
              rw [List.getElem?_eq_getElem (by omega)] at this
              obtain ⟨cs', h1, _⟩ := Option.bind_eq_some_iff.1 this
              rw [Nat.add_zero, Nat.zero_mul] at h1
              exact spot_none h1
            · obtain ⟨cs', h1, _⟩ := hone 0 (by omega)
              rw [Nat.zero_mul] at h1
              exact spot_none h1
          obtain ⟨l, hl, hwl', hcl'⟩ := nd_list (enc := enc) (ih q (by omega)) hwe hone
          exact fin l hwl' (nd_slice hspot hle hl hcl') rfl
end
end Go.Proofs.YtdiphholophdcabGreatDoor.T
end
section
/- math/bits.Add64. -/
namespace Go.Ab
section
variable {c : Ctx}
def sum64 (x y k : Int) : Nat := x.toNat + y.toNat + k.toNat
def extAdd64 : ExtFn := fun args S => match args with
  | [(.int .u64 x, .no), (.int .u64 y, .no), (.int .u64 k, .no)] => match k == 0 with
    | true => some (.ret (.tup [.int .u64 (Int.ofNat (sum64 x y 0 % 2 ^ 64)), .int .u64 (Int.ofNat (sum64 x y 0 / 2 ^ 64))], .no), S)
    | false => none
  | _ => none
theorem extAdd64_sound {f : FuncId} {fn : Func} (hf : c.P.funcs[f]? = some fn) (hname : (fn.name == "runtime.NumGoroutine") = false) (hb : fn.body.isNone = true) (hn : Extern.findNext fn = none)
    {e : Array Value → Sem Value} (he : Extern.find fn = some e) (h0 : (Extern.MathBitsCarry.rows.map (·.2))[0]? = some e) : ExtSound c f extAdd64 := by
  intro args S out S' h
  unfold extAdd64 at h
  split at h
  · rename_i x y k
    split at h
    · rename_i hk
      have hk := eq_of_beq hk
      subst hk
      cases h
      refine ⟨.refl _ _, fun B w0 G w vs inv ha => ?_⟩
      obtain ⟨v0, v1, v2, rfl, h1, h2, h3⟩ := args_three ha
      have h1 := h1.1
      have h2 := h2.1
      have h3 := h3.1
      cases h1
      cases h2
      cases h3
      refine .inr ⟨.tuple #[.int .u64 (Int.ofNat (sum64 x y 0 % 2 ^ 64)), .int .u64 (Int.ofNat (sum64 x y 0 / 2 ^ 64))], w, ?_, G, inv, .refl _ _, RS.no (.tup _ _ rfl fun i a b => ?_)⟩
      · rw [run_callFunc_extern hf hname hb hn he]
        have e1 := Option.some.inj h0
        subst e1
        rfl
      · have : i = 0 ∨ i = 1 := by simp at a; omega
        rcases this with rfl | rfl
        · exact .int _ _
        · exact .int _ _
    · cases h
  · cases h
end
end Go.Ab
end
