import Derived.Test.YtdiphholophdcaaAbRun
import Derived.Below
set_option linter.unusedVariables false
set_option linter.unusedSimpArgs false
/- HOW ABSTRACT VALUES LIE IN MEMORY. -/
namespace Go.Ab
open Go.RowKit

structure Own where
  base : Option Addr
  len : Nat
  cap : Nat
  sz : Nat
/-- nothing stands in the spare room of an empty one -/
def Own.ok (o : Own) : Prop := o.len ≤ o.cap ∧ (o.len = 0 → o.cap = 0)
def Own.val (o : Own) : Value := .slice o.base o.len o.cap
structure Gh where
  φ : List (Option Nat)
  I : Nat → Nat → Option Value
  own : List Own

def fl (xs : List AV) : List AV := xs.flatMap AV.cells

inductive R (G : Gh) : AV → Value → Prop
  | undef (v) : R G .undef v
  | int (k n) : R G (.int k n) (.int k n)
  | bool (b) : R G (.bool b) (.bool b)
  | str (s) : R G (.str s) (.string ⟨⟨s⟩⟩)
  | nilptr : R G .nilptr (.pointer none)
  | ptr (b o c : Nat) (h : G.φ[b]? = some (some c)) : R G (.ptr b o) (.pointer (some ⟨c, o, none⟩))
  | iptr (cs : List AV) (c o : Nat) (f : Nat → Value) (h : ∀ i, i < cs.length → G.I c (o + i) = some (f i)) (hr : ∀ i (h : i < cs.length), R G cs[i] (f i)) :
      R G (.iptr cs) (.pointer (some ⟨c, o, none⟩))
  | nils : R G (.sl []) (.slice none 0 0)
  | sl (sz : Nat) (xs : List AV) (c o cap : Nat) (f : Nat → Value) (hs : ∀ x ∈ xs, x.cells.length = sz) (hc : xs.length ≤ cap)
      (h : ∀ i, i < (fl xs).length → G.I c (o + i) = some (f i)) (hr : ∀ i (h : i < (fl xs).length), R G (fl xs)[i] (f i))
      (h1 : ∀ i, i < (fl xs).length → (f i).oneCell' = true) :
      R G (.sl xs) (.slice (some ⟨c, o, none⟩) xs.length cap)
  | slr (b o n c cap : Nat) (h : G.φ[b]? = some (some c)) (hc : n ≤ cap) : R G (.slr b o n) (.slice (some ⟨c, o, none⟩) n cap)
  | nilfn : R G .nilfn .nilFunc
  | fn (f : FuncId) (a b : List AV) (va vb : Array Value) (ha : a.length = va.size) (hb : b.length = vb.size)
      (hra : ∀ i (h : i < a.length) (h' : i < va.size), R G a[i] va[i]) (hrb : ∀ i (h : i < b.length) (h' : i < vb.size), R G b[i] vb[i]) :
      R G (.fn f a b) (.func (.func f) va vb)
  | nili : R G .nili .nilIface
  | iface (t x v) (h : R G x v) : R G (.iface t x) (.iface t v)
  | agg (cs : List AV) (vs : Array Value) (hl : cs.length = vs.size) (hr : ∀ i (h : i < cs.length) (h' : i < vs.size), R G cs[i] vs[i]) : R G (.agg cs) (.agg vs)
  | tup (cs : List AV) (vs : Array Value) (hl : cs.length = vs.size) (hr : ∀ i (h : i < cs.length) (h' : i < vs.size), R G cs[i] vs[i]) : R G (.tup cs) (.tuple vs)

/-- the ghost knows no less -/
structure Mono (G G' : Gh) : Prop where
  φ : ∀ b c : Nat, G.φ[b]? = some (some c) → G'.φ[b]? = some (some c)
  I : ∀ c o v, G.I c o = some v → G'.I c o = some v
theorem Mono.refl (G : Gh) : Mono G G := ⟨fun _ _ h => h, fun _ _ _ h => h⟩
theorem Mono.trans {G G' G'' : Gh} (h : Mono G G') (k : Mono G' G'') : Mono G G'' := ⟨fun b c x => k.φ b c (h.φ b c x), fun c o v x => k.I c o v (h.I c o v x)⟩

theorem R.mono {G G' : Gh} (m : Mono G G') {x : AV} {v : Value} (h : R G x v) : R G' x v := by
  induction h with
  | undef v => exact .undef v
  | int k n => exact .int k n
  | bool b => exact .bool b
  | str s => exact .str s
  | nilptr => exact .nilptr
  | ptr b o c h => exact .ptr b o c (m.φ b c h)
  | iptr cs c o f h _ ih => exact .iptr cs c o f (fun i hi => m.I _ _ _ (h i hi)) ih
  | nils => exact .nils
  | sl sz xs c o cap f hs hc h _ h1 ih => exact .sl sz xs c o cap f hs hc (fun i hi => m.I _ _ _ (h i hi)) ih h1
  | slr b o n c cap h hc => exact .slr b o n c cap (m.φ b c h) hc
  | nilfn => exact .nilfn
  | fn f a b va vb ha hb _ _ iha ihb => exact .fn f a b va vb ha hb iha ihb
  | nili => exact .nili
  | iface t x v _ ih => exact .iface t x v ih
  | agg cs vs hl _ ih => exact .agg cs vs hl ih
  | tup cs vs hl _ ih => exact .tup cs vs hl ih

def AV.len : AV → Nat
  | .sl xs => xs.length
  | _ => 0
/-- what a tag says of the value beside it -/
def RT1 (G : Gh) (T : List Nat) (x : AV) (tg : Tag) (v : Value) : Prop :=
  match tg with
  | .full => ∀ b l c, v = .slice b l c → l = c
  | .tok id => ∃ n, T[id]? = some n ∧ x.len ≤ n ∧ (x.len = n → ∀ b l c, v = .slice b l c → ∃ ow, G.own[id]? = some ow ∧ v = ow.val ∧ ∀ y ys, x = .sl (y :: ys) → ow.sz = y.cells.length)
  | _ => True
def RT (G : Gh) (T : List Nat) (x : AV) (tg : Tag) (v : Value) : Prop :=
  RT1 G T x tg v ∧
  match x, v, tg with
  | .agg cs, .agg vs, .agg ts => ∀ i (h : i < cs.length) (h' : i < vs.size), RT1 G T cs[i] (ts.getD i .no) vs[i]
  | .tup cs, .tuple vs, .agg ts => ∀ i (h : i < cs.length) (h' : i < vs.size), RT1 G T cs[i] (ts.getD i .no) vs[i]
  | _, _, _ => True
def RS (G : Gh) (T : List Nat) (x : SV) (v : Value) : Prop := R G x.1 v ∧ RT G T x.1 x.2 v

theorem RT.no {G : Gh} {T : List Nat} {x : AV} {v : Value} : RT G T x .no v := by
  refine ⟨trivial, ?_⟩
  split <;> first | trivial | simp_all
/-- a pointer may bear any of these -/
theorem RS.ptrTag {G : Gh} {T : List Nat} {x : AV} {a : Option Addr} {tg : Tag} (ht : tg = .no ∨ tg = .full ∨ tg = .agg []) (h : R G x (.pointer a)) : RS G T (x, tg) (.pointer a) := by
  refine ⟨h, ?_, ?_⟩
  · rcases ht with rfl | rfl | rfl
    · trivial
    · intro b l c e; cases e
    · trivial
  · rcases ht with rfl | rfl | rfl <;> (cases x <;> exact True.intro)
theorem RS.no {G : Gh} {T : List Nat} {x : AV} {v : Value} (h : R G x v) : RS G T (x, .no) v := ⟨h, RT.no⟩

structure Grows (G : Gh) (T : List Nat) (G' : Gh) (T' : List Nat) : Prop where
  mono : Mono G G'
  φ : ∀ b : Nat, b < G.φ.length → G'.φ[b]? = G.φ[b]?
  T : ∀ id n : Nat, T[id]? = some n → ∃ n', T'[id]? = some n' ∧ n ≤ n' ∧ (n' = n → G'.own[id]? = G.own[id]?)
theorem Grows.refl (G : Gh) (T : List Nat) : Grows G T G T := ⟨.refl G, fun _ _ => rfl, fun _ n h => ⟨n, h, Nat.le_refl n, fun _ => rfl⟩⟩
theorem len_le_of {G G' : Gh} (h : ∀ b : Nat, b < G.φ.length → G'.φ[b]? = G.φ[b]?) : G.φ.length ≤ G'.φ.length := by
  rcases Nat.lt_or_ge G'.φ.length G.φ.length with hl | hl
  · have := h G'.φ.length hl
    rw [List.getElem?_eq_none (Nat.le_refl _), List.getElem?_eq_getElem hl] at this
    cases this
  · exact hl
theorem Grows.trans {G G' G'' : Gh} {T T' T'' : List Nat} (h : Grows G T G' T') (k : Grows G' T' G'' T'') : Grows G T G'' T'' := by
  refine ⟨h.mono.trans k.mono, fun b hb => ?_, fun id n hn => ?_⟩
  · rw [k.φ b (Nat.lt_of_lt_of_le hb (len_le_of h.φ)), h.φ b hb]
  · obtain ⟨n', h1, h2, h3⟩ := h.T id n hn
    obtain ⟨n'', k1, k2, k3⟩ := k.T id n' h1
    exact ⟨n'', k1, by omega, fun e => by rw [k3 (by omega), h3 (by omega)]⟩
/-- the part of an extension that what is known of values needs -/
structure Later (G : Gh) (T : List Nat) (G' : Gh) (T' : List Nat) : Prop where
  mono : Mono G G'
  T : ∀ id n : Nat, T[id]? = some n → ∃ n', T'[id]? = some n' ∧ n ≤ n' ∧ (n' = n → G'.own[id]? = G.own[id]?)
theorem Grows.later {G G' : Gh} {T T' : List Nat} (h : Grows G T G' T') : Later G T G' T' := ⟨h.mono, h.T⟩
theorem Later.refl (G : Gh) (T : List Nat) : Later G T G T := (Grows.refl G T).later
theorem Later.trans {G G' G'' : Gh} {T T' T'' : List Nat} (h : Later G T G' T') (k : Later G' T' G'' T'') : Later G T G'' T'' := by
  refine ⟨h.mono.trans k.mono, fun id n hn => ?_⟩
  obtain ⟨n', h1, h2, h3⟩ := h.T id n hn
  obtain ⟨n'', k1, k2, k3⟩ := k.T id n' h1
  exact ⟨n'', k1, by omega, fun e => by rw [k3 (by omega), h3 (by omega)]⟩

theorem RT1.later {G G' : Gh} {T T' : List Nat} (l : Later G T G' T') {x : AV} {tg : Tag} {v : Value} (h : RT1 G T x tg v) : RT1 G' T' x tg v := by
  cases tg with
  | no => trivial
  | full => exact h
  | agg _ => trivial
  | tok id =>
    obtain ⟨n, h1, h2, h3⟩ := h
    obtain ⟨n', k1, k2, k3⟩ := l.T id n h1
    refine ⟨n', k1, by omega, fun e b ln c hv => ?_⟩
    obtain ⟨ow, ho, hv'⟩ := h3 (by omega) b ln c hv
    exact ⟨ow, by rw [k3 (by omega)]; exact ho, hv'⟩
theorem RT.later {G G' : Gh} {T T' : List Nat} (l : Later G T G' T') {x : AV} {tg : Tag} {v : Value} (h : RT G T x tg v) : RT G' T' x tg v := by
  obtain ⟨h1, h2⟩ := h
  refine ⟨h1.later l, ?_⟩
  split at h2
  · exact fun i a b => (h2 i a b).later l
  · exact fun i a b => (h2 i a b).later l
  · trivial
theorem RS.later {G G' : Gh} {T T' : List Nat} (l : Later G T G' T') {x : SV} {v : Value} (h : RS G T x v) : RS G' T' x v := ⟨h.1.mono l.mono, h.2.later l⟩

/-- what a run may not touch: blocks, and what was known of them -/
structure Bd where
  D : Nat → Prop
  I0 : Nat → Nat → Option Value
/-- the run may write it -/
def Bd.free (B : Bd) (d : Nat) : Prop := ¬ B.D d
structure BelowD (B : Bd) (w w' : World) : Prop where
  os : w'.os = w.os
  tape : w'.tape = w.tape
  output : w'.output = w.output
  size : w.heap.size ≤ w'.heap.size
  block : ∀ k, B.D k → w'.heap[k]? = w.heap[k]?
theorem BelowD.refl (B : Bd) (w : World) : BelowD B w w := ⟨rfl, rfl, rfl, Nat.le_refl _, fun _ _ => rfl⟩
theorem BelowD.trans {B : Bd} {a b c : World} (h : BelowD B a b) (k : BelowD B b c) : BelowD B a c :=
  ⟨k.os.trans h.os, k.tape.trans h.tape, k.output.trans h.output, Nat.le_trans h.size k.size, fun i hi => (k.block i hi).trans (h.block i hi)⟩
theorem BelowD.alloc {B : Bd} {a w : World} (h : BelowD B a w) (hB : ∀ d, w.heap.size ≤ d → B.free d) (o : Obj) : BelowD B a (w.alloc o) :=
  ⟨h.os, h.tape, h.output, Nat.le_trans h.size (by show _ ≤ (w.heap.push o).size; simp), fun k hk => by
    have hlt : k < w.heap.size := by
      rcases Nat.lt_or_ge k w.heap.size with hl | hl
      · exact hl
      · exact absurd hk (hB k hl)
    rw [Below.heap_alloc w o k hlt]; exact h.block k hk⟩
/-- how the state lies in the world: 'B': what the run may not touch; 'w0': the world at the run's begin -/
structure Inv (c : Ctx) (B : Bd) (w0 : World) (G : Gh) (S : St) (w : World) : Prop where
  below : BelowD B w0 w
  base : ∀ d, w.heap.size ≤ d → B.free d
  iD : ∀ d o, B.D d → G.I d o = B.I0 d o
  lenφ : G.φ.length = S.H.length
  lenO : G.own.length = S.T.length
  inj : ∀ i j d : Nat, G.φ[i]? = some (some d) → G.φ[j]? = some (some d) → i = j
  low : ∀ (b : Nat) (cells : Blk), S.H[b]? = some cells → ∀ x ∈ cells, x.1.low (b + 1) = true
  tag : ∀ (b : Nat) (cells : Blk), S.H[b]? = some cells → ∀ x ∈ cells, x.2.low S.T.length = true
  blk : ∀ (b d : Nat) (cells : Blk), S.H[b]? = some cells → G.φ[b]? = some (some d) → B.free d ∧
    ∃ vs t fr, w.heap[d]? = some (.cells vs t fr) ∧ cells.length ≤ vs.size ∧ (∀ o, o < cells.length → ¬ (fr.1 ≤ o ∧ o < fr.2)) ∧
      ∀ i (h : i < cells.length) (h' : i < vs.size), RS G S.T cells[i] vs[i]
  imm : ∀ (d o : Nat) (v : Value), G.I d o = some v → w.cell? ⟨d, o, none⟩ = some v ∧ ∀ b : Nat, G.φ[b]? ≠ some (some d)
  own : ∀ (id : Nat) (ow : Own), G.own[id]? = some ow → S.T[id]? = some ow.len ∧ ow.ok ∧
    (ow.len < ow.cap → ∃ d o, ow.base = some ⟨d, o, none⟩ ∧ B.free d ∧ (∀ b : Nat, G.φ[b]? ≠ some (some d)) ∧
      ∃ vs t fr, w.heap[d]? = some (.cells vs t fr) ∧ o + ow.cap * ow.sz ≤ vs.size ∧
        ∀ i, o + ow.len * ow.sz ≤ i → ¬ (fr.1 ≤ i ∧ i < fr.2) ∧ G.I d i = none)
  dis : ∀ (i j : Nat) (oi oj : Own) (d o o' : Nat), i ≠ j → G.own[i]? = some oi → G.own[j]? = some oj → oi.len < oi.cap → oj.len < oj.cap →
    oi.base = some ⟨d, o, none⟩ → oj.base ≠ some ⟨d, o', none⟩
  glob : ∀ (g : Nat) (cs : List AV), c.glob g = some cs → R G (.iptr cs) (.pointer (some ⟨g, 0, none⟩)) ∧ (AV.iptr cs).low 0 = true

end Go.Ab
