import Derived.Test.YtdiphholophdcaaAbAct7
set_option linter.unusedVariables false
set_option linter.unusedSimpArgs false
namespace Go.Ab
open Go.RowKit
section
variable {c : Ctx} {B : Bd} {w0 : World} {G : Gh} {S : St} {w : World} {ρ : Operand → SV} {σ : Operand → Value}

theorem headD_zero : ∀ (l : List AV) (h : 0 < l.length), l.headD .undef = l[0]
  | _ :: _, _ => rfl

theorem d_makeSlice {e : Env0} (he : e.c = c) {o : Oper} {t : TypeId} {a b : Operand} {x : SV} {S' : St} (hop : o.op = .makeSlice t a b) (inv : Inv c B w0 G S w) (hρ : ∀ x, RS G S.T (ρ x) (σ x))
    (h : e.act (.makeSlice t a b) ρ S = some (.ok x S')) : Does c B w0 G S w σ o x S' := by
  subst he
  simp only [Env0.act] at h
  split at h <;> first | (cases h; done) | skip
  rename_i elem k n k' m hk ha hb
  obtain ⟨⟨hnm, h0, hmax, hs1, hbytes, hhz, htz⟩, h9⟩ := Option.ite_none_right_eq_some.1 h
  subst hnm
  cases h9
  have hra := (hρ a).1
  have hrb := (hρ b).1
  rw [ha] at hra
  rw [hb] at hrb
  generalize hva : σ a = va at *
  generalize hvb : σ b = vb at *
  cases hra; cases hrb
  obtain ⟨q, rfl⟩ : ∃ q : Nat, n = q := ⟨n.toNat, by omega⟩
  obtain ⟨i, z, hi, hz⟩ := of_hasZero hhz
  have hsz : i.size = 1 := by simpa [tsz, hi] using hs1
  have hbi : i.bytes ≤ 64 := by simpa [Program.bytesOf, hi] using hbytes
  have hz0 := zero_sound (G := G) (T := S.T) hi hz
  have hzs : z.cells.size = 1 := by rw [← hz0.1, tzs, List.length_map, htz]
  have hmax' : (q : Int) ≤ 4294967296 := by unfold Ab.maxLen at hmax; omega
  have hwrap : IntKind.i64.wrap (q : Int) = q := by rw [IntKind.wrap_i64]; omega
  generalize hvs : (Array.range q).map (fun j => z.cells[j % z.cells.size]!) = vs
  have hvsz : vs.size = q := by rw [← hvs]; simp
  have inv' := inv.newVar (List.replicate q ((tz e.c.P elem).headD .undef, .no)) vs elem (by simp [hvsz]) (fun j h1 h2 => by
    have h3 := (hz0.2 0 (by simp [tzs, htz]) (by omega)).1
    have e1 : (List.replicate q ((tz e.c.P elem).headD .undef, Tag.no))[j] = ((tz e.c.P elem).headD .undef, .no) := by simp
    have e2 : vs[j] = z.cells[0] := by
      simp only [← hvs, Array.getElem_map, Array.getElem_range, hzs, Nat.mod_one]
      exact getElem!_pos z.cells 0 (by omega)
    rw [e1, e2]
    have e3 : (tz e.c.P elem).headD .undef = (tz e.c.P elem)[0]'(by omega) := headD_zero _ _
    rw [e3]
    refine RS.no ?_
    simpa [tzs] using h3) (fun x hx => by rw [(List.mem_replicate.1 hx).2]; rfl)
  refine ⟨w.alloc (.cells vs elem), _, .value (.slice (some ⟨w.heap.size, 0, none⟩) q q), _, ?_, .inl rfl, inv', grows_var _ _ _, RS.no (.slr _ _ _ _ _ ?_ (Nat.le_refl _))⟩
  · have h1 : ¬ ((i.bytes : Int) * q > 2 ^ 48) := by
      have : (i.bytes : Int) * q ≤ 64 * q := Int.mul_le_mul_of_nonneg_right (by omega) h0
      omega
    have h2 : ¬ (q : Int) < 0 := by omega
    simp only [execOp, hop, hva, hvb, Instr.makeSlice, Sem.run_bind, run_underlying e.c.P w (tk_slice hk), Result.andThen_ok, asInt, asIntOf, Sem.run_pure, typeInfo, run_program, hi, hwrap, run_sizeOf e.c.P w hi, hsz, Nat.mul_one]
    simp only [h1, h2, decide_false, Bool.or_false, Bool.false_eq_true, false_or, Int.lt_irrefl, or_false, if_false, gt_iff_lt, Sem.run_ite, Sem.run_bind, run_askRoom, Result.andThen_ok, Sem.run_pure, Bool.or_self, decide_true]
    by_cases hn0 : q = 0
    · subst hn0
      have hv0 : vs = #[] := by rw [← hvs]; simp
      simp [newRow, run_sizeOf e.c.P w hi, hv0]
      rw [show Array.map (fun _ => (default : Value)) (Array.range 0) = #[] from Array.eq_empty_of_size_eq_zero (by simp)]
    · simp [hn0, zeroValue, typeInfo, run_program, hi, hz, newRow, run_sizeOf e.c.P w hi, hsz]
      rw [hvs]
  · show (G.φ ++ [some w.heap.size])[S.H.length]? = _
    rw [← inv.lenφ]
    simp

theorem d_convert {e : Env0} (he : e.c = c) {o : Oper} {src dst : TypeId} {a : Operand} {x : SV} {S' : St} (hop : o.op = .convert src dst a) (inv : Inv c B w0 G S w) (hρ : ∀ x, RS G S.T (ρ x) (σ x))
    (h : e.act (.convert src dst a) ρ S = some (.ok x S')) : Does c B w0 G S w σ o x S' := by
  subst he
  simp only [Env0.act] at h
  split at h
  · cases h
  rename_i hsrc
  obtain ⟨ds, hds⟩ : ∃ ds, e.c.P.underlying src = some ds := by
    cases hk : tk e.c.P src with
    | other => rw [hk] at hsrc; simp [TK.isOther] at hsrc
    | _ => exact underlying_of_tk hk (by simp)
  split at h <;> first | (cases h; done) | skip
  rename_i elem s hk hy
  split at h <;> first | (cases h; done) | skip
  rename_i hke
  cases h
  have hra := (hρ a).1
  rw [hy] at hra
  generalize hva : σ a = va at *
  cases hra
  -- the world: a draw, a new row, a mark behind it
  obtain ⟨cap, hcap⟩ : ∃ cap, cap = (Question.appendCap s.length 0 elem).cut (w.tape w.drawn (.appendCap s.length 0 elem)) := ⟨_, rfl⟩
  generalize hvs : (s.map fun b => Value.int .u8 b.toNat).toArray ++ Array.replicate (cap - s.length) (Value.int .u8 0) = vs
  have hge : s.length ≤ cap := by
    have := grownCap_ge w s.length 0 elem
    rw [hcap]; exact this
  have hl : s.length ≤ vs.size := by rw [← hvs]; simp
  have inv' := (inv.drew (w.drawn + 1)).newVar ((toBytes s).map (·, .no)) vs elem (by simp [toBytes]; exact hl) (fun j h1 h2 => by
    have hj : j < s.length := by simpa [toBytes] using h1
    have e2 : vs[j] = .int .u8 s[j].toNat := by
      simp only [← hvs]
      rw [Array.getElem_append_left (by simpa using hj)]
      simp
    rw [e2]
    simp only [List.getElem_map, toBytes]
    exact RS.no (.int _ _)) (fun x hx => by obtain ⟨q, _, rfl⟩ := List.mem_map.1 hx; rfl)
  -- freezing one cell behind the row
  have hw : Writes (World.alloc { w with drawn := w.drawn + 1 } (.cells vs elem)) ((World.alloc { w with drawn := w.drawn + 1 } (.cells vs elem)).freeze { block := w.heap.size, off := vs.size } 1) w.heap.size (.cells vs elem (vs.size, vs.size + 1)) := by
    refine ⟨?_, fun k hk => ?_, ?_, rfl, rfl, rfl⟩
    · simp only [World.freeze, Nat.one_ne_zero, if_false, Array.getElem?_modify]
      have := heap_alloc_new (w := { w with drawn := w.drawn + 1 }) (o := .cells vs elem)
      rw [show (w.heap.size) = ({ w with drawn := w.drawn + 1 } : World).heap.size from rfl, this]
      simp
    · simp only [World.freeze, Nat.one_ne_zero, if_false, Array.getElem?_modify]
      rw [if_neg (fun h => hk h.symm)]
    · simp [World.freeze]
  have hφ : (G.φ ++ [some w.heap.size])[S.H.length]? = some (some w.heap.size) := by rw [← inv.lenφ]; simp
  have hb : (S.H ++ [(toBytes s).map ((·, Tag.no) : AV → SV)])[S.H.length]? = some ((toBytes s).map (·, .no)) := by simp
  obtain ⟨p1, us, u, fr, p2, p3, p4, p5⟩ := inv'.blk _ _ _ hb hφ
  have p2' := heap_alloc_new (w := { w with drawn := w.drawn + 1 }) (o := .cells vs elem)
  rw [show (({ w with drawn := w.drawn + 1 } : World).heap.size) = w.heap.size from rfl] at p2'
  rw [p2'] at p2
  cases p2
  have inv2 := inv'.blkSet' hb hφ p2' hw (fun o ho => by simp [toBytes] at ho; simp only; omega) rfl rfl (fun x hx => by
    obtain ⟨q, hq, rfl⟩ := List.mem_map.1 hx
    obtain ⟨r, _, rfl⟩ := List.mem_map.1 hq
    rfl) (fun x hx => by obtain ⟨q, _, rfl⟩ := List.mem_map.1 hx; rfl) p5
  have hset : (S.H ++ [(toBytes s).map ((·, Tag.no) : AV → SV)]).set S.H.length ((toBytes s).map (·, .no)) = S.H ++ [(toBytes s).map (·, .no)] := by simp
  rw [hset] at inv2
  refine ⟨_, _, .value (.slice (some ⟨w.heap.size, 0, none⟩) s.length cap), _, ?_, .inl rfl, inv2, grows_var _ _ _, RS.no (.slr _ _ _ _ _ hφ hge)⟩
  have harr : (Array.map (fun b : UInt8 => Value.int .u8 b.toNat) (⟨s⟩ : Array UInt8)) = (s.map fun b => Value.int .u8 b.toNat).toArray := by simp
  have hsh : World.shape? (World.alloc { w with drawn := w.drawn + 1 } (.cells vs elem)) w.heap.size = some (elem, vs.size) := by unfold World.shape?; rw [p2']
  have hf : Question.forced (.appendCap s.length 0 elem) = false := rfl
  simp only [execOp, hop, hva, convert, Sem.run_bind, run_underlying e.c.P w hds, run_underlying e.c.P w (tk_slice hk), run_underlying e.c.P w (tk_int hke), Result.andThen_ok]
  have key : (Conv.stringToBytes elem ⟨⟨s⟩⟩).run e.c.P w = .ok (.slice (some ⟨w.heap.size, 0, none⟩) s.length cap) ((World.alloc { w with drawn := w.drawn + 1 } (.cells vs elem)).freeze { block := w.heap.size, off := vs.size } 1) := by
    simp only [Conv.stringToBytes, Sem.run_bind, run_choose, size_mk, hf, Bool.false_eq_true, if_false, Result.andThen_ok, newRow, run_newObj, Sem.run_pure, markStringish, run_shape]
    rw [← hcap]
    have e1 : (Array.map (fun b : UInt8 => Value.int .u8 b.toNat) (⟨s⟩ : Array UInt8)) ++ Array.replicate (cap - s.length) (Value.int .u8 0) = vs := by rw [harr, hvs]
    simp only [e1]
    have e2 : ({ heap := w.heap.push (.cells vs elem), tape := w.tape, drawn := w.drawn + 1, os := w.os, output := w.output } : World) = World.alloc { w with drawn := w.drawn + 1 } (.cells vs elem) := rfl
    rw [e2, hsh]
    simp
  cases ds <;> first
    | (simp only [key, Result.andThen_ok, Sem.run_pure]; done)
    | (simp [key]; done)
end
end Go.Ab
