import Derived.Test.YtdiphholophdcaaAbPure7
import Derived.Laws.BytesString
set_option linter.unusedVariables false
set_option linter.unusedSimpArgs false
namespace Go.Ab
theorem addr_add (d o n : Nat) : (⟨d, o, none⟩ : Addr).add n = ⟨d, o + n, none⟩ := by unfold Addr.add; split <;> simp_all
section
variable {c : Ctx} {G : Gh} {T : List Nat} {w : World} {ρ : Operand → SV} {σ : Operand → Value}

theorem bytesOf_map {xs : List AV} {s : List UInt8} (h : bytesOf xs = some s) : ∃ ns : List Int, xs = ns.map (AV.int .u8) ∧ s = ns.map (fun n => UInt8.ofNat n.toNat) := by
  induction xs generalizing s with
  | nil => simp [bytesOf] at h; exact ⟨[], rfl, by simp [h]⟩
  | cons x xs ih =>
    unfold bytesOf at h
    split at h <;> first | (cases h; done) | skip
    · rename_i hh; cases hh
    · rename_i n r hh
      cases hh
      simp only [Option.map_eq_some_iff] at h
      obtain ⟨s', hs, rfl⟩ := h
      obtain ⟨ns, rfl, rfl⟩ := ih hs
      exact ⟨n :: ns, rfl, rfl⟩
theorem foldl_push (ns : List Int) : ∀ (s : List UInt8), ns.foldl (fun (r : ByteArray) n => r.push (UInt8.ofNat n.toNat)) ⟨⟨s⟩⟩ = ⟨⟨s ++ ns.map (fun n => UInt8.ofNat n.toNat)⟩⟩ := by
  induction ns with
  | nil => intro s; simp
  | cons n ns ih =>
    intro s
    have : (⟨⟨s⟩⟩ : ByteArray).push (UInt8.ofNat n.toNat) = ⟨⟨s ++ [UInt8.ofNat n.toNat]⟩⟩ := by
      apply ByteArray.ext
      apply Array.ext'
      simp [ByteArray.push]
    rw [List.foldl_cons, this, ih]
    simp
/-- cells that stand for bytes are read as a text -/
theorem bytes_read {d o len cap : Nat} {ns : List Int} (hl : ns.length = len) (h : ∀ i (h : i < ns.length), w.cell? ⟨d, o + i, none⟩ = some (.int .u8 ns[i])) :
    (Conv.bytesToString (.slice (some ⟨d, o, none⟩) len cap)).run c.P w = .ok (.string ⟨⟨ns.map (fun n => UInt8.ofNat n.toNat)⟩⟩) w := by
  subst hl
  rw [run_bytesToString w _ _ cap ns]
  · have := foldl_push ns []
    rw [show ByteArray.empty = (⟨⟨[]⟩⟩ : ByteArray) from rfl, this]
    rfl
  · have := run_loadCells_list (P := c.P) w ⟨d, o, none⟩ (ns.map (Value.int .u8)) (fun j v hv => by
      rw [addr_add]
      simp only [List.getElem?_map, Option.map_eq_some_iff] at hv
      obtain ⟨n, hn, rfl⟩ := hv
      obtain ⟨hlt, rfl⟩ := List.getElem?_eq_some_iff.1 hn
      exact h j hlt)
    simpa using this

theorem fl_bytes (ns : List Int) : fl (ns.map (AV.int .u8)) = ns.map (AV.int .u8) := by
  induction ns with
  | nil => rfl
  | cons n ns ih => simp [fl_cons, AV.cells, ih]

theorem y_convert {o : Oper} {src dst : TypeId} {a : Operand} {x : SV} (hop : o.op = .convert src dst a) (hρ : ∀ x, RS G T (ρ x) (σ x))
    (himm : ∀ d o v, G.I d o = some v → w.cell? ⟨d, o, none⟩ = some v) (h : c.pure (.convert src dst a) ρ = some x) : Yields c G T w σ o x := by
  refine .of_sem (s := convert src dst (σ a)) (by simp only [execOp, hop]) ?_
  simp only [Ctx.pure] at h
  split at h
  · cases h
  rename_i hsrc
  obtain ⟨ds, hds⟩ : ∃ ds, c.P.underlying src = some ds := by
    cases hk : tk c.P src with
    | other => rw [hk] at hsrc; simp [TK.isOther] at hsrc
    | _ => exact underlying_of_tk hk (by simp)
  have hra := (hρ a).1
  split at h <;> first | (cases h; done) | skip
  · rename_i k k' n hk hy
    rw [hy] at hra
    generalize hva : σ a = va at *
    cases hra
    cases h
    exact ⟨_, by simp [convert, run_underlying c.P w hds, run_underlying c.P w (tk_int hk), Conv.intToInt], RS.no (.int _ _)⟩
  · rename_i s hk hy
    rw [hy] at hra
    generalize hva : σ a = va at *
    cases hra
    cases h
    refine ⟨.string ⟨⟨s⟩⟩, ?_, RS.no (.str _)⟩
    cases ds <;> simp [convert, run_underlying c.P w hds, run_underlying c.P w (tk_string hk)]
  · rename_i xs hk hy
    rw [hy] at hra
    generalize hva : σ a = va at *
    split at h <;> first | (cases h; done) | skip
    rename_i e hks
    split at h <;> first | (cases h; done) | skip
    rename_i hke
    simp only [Option.map_eq_some_iff] at h
    obtain ⟨s, hs, rfl⟩ := h
    obtain ⟨ns, rfl, rfl⟩ := bytesOf_map hs
    generalize hxs : AV.sl (ns.map (AV.int .u8)) = xx at hra
    cases hra <;> first | (cases hxs; done) | skip
    · have hn := AV.sl.inj hxs
      obtain rfl : ns = [] := by simpa using hn
      refine ⟨.string .empty, ?_, RS.no (.str _)⟩
      simp [convert, run_underlying c.P w (tk_slice hks), run_underlying c.P w (tk_string hk), run_underlying c.P w (tk_int hke), Conv.bytesToString]
    · rename_i sz xs' cc oo cap f hs hc hI hR h1c
      obtain rfl := AV.sl.inj hxs
      refine ⟨_, ?_, RS.no (.str _)⟩
      have hfl := fl_bytes ns
      have hb := bytes_read (c := c) (w := w) (d := cc) (o := oo) (len := (ns.map (AV.int .u8)).length) (cap := cap) (ns := ns) (by simp) (fun i hi => by
        have h1 := himm _ _ _ (hI i (by rw [hfl]; simpa using hi))
        have h2 := hR i (by rw [hfl]; simpa using hi)
        rw [h1]
        simp only [hfl, List.getElem_map] at h2
        generalize f i = u at *
        cases h2
        rfl)
      simp [convert, run_underlying c.P w (tk_slice hks), run_underlying c.P w (tk_string hk), run_underlying c.P w (tk_int hke)]
      simpa using hb

/-- a variable of a type, loaded from cells that are known -/
theorem loadVar_sound {t : TypeId} {cs : List SV} {off d o : Nat} {x : SV} (f : Nat → Value) (hc : ∀ i, i < cs.length → w.cell? ⟨d, o + i, none⟩ = some (f i))
    (hR : ∀ i (h : i < cs.length), RS G T cs[i] (f i)) (h : c.part t cs off = some x) : ∃ v, (loadVar t ⟨d, o + off, none⟩).run c.P w = .ok v w ∧ RS G T x v := by
  unfold Ctx.part at h
  have agg : (tk c.P t).isAgg = true → (if off + tsz c.P t ≤ cs.length then some (collect ((cs.drop off).take (tsz c.P t))) else none) = some x → ∃ v, (loadVar t ⟨d, o + off, none⟩).run c.P w = .ok v w ∧ RS G T x v := by
    intro ha h
    obtain ⟨hle, h⟩ := Option.ite_none_right_eq_some.1 h
    cases h
    obtain ⟨dd, hd⟩ : ∃ dd, c.P.underlying t = some dd := by
      cases hk : tk c.P t <;> first | (rw [hk] at ha; cases ha; done) | exact underlying_of_tk hk (by simp)
    obtain ⟨i, hi⟩ := info_of_underlying hd
    have hs : tsz c.P t = i.size := by simp [tsz, hi]
    have hl := run_loadCells (P := c.P) w ⟨d, o + off, none⟩ (tsz c.P t) (fun j => f (off + j)) (fun j hj => by rw [addr_add, Nat.add_assoc]; exact hc _ (by omega))
    refine ⟨.agg ((List.range (tsz c.P t)).map fun j => f (off + j)).toArray, ?_, collect_sound ⟨by simp; omega, fun j hj hj' => ?_⟩⟩
    · rw [hs] at hl
      simp only [loadVar, Sem.run_bind, run_isAgg c.P w hd (by cases hk : tk c.P t <;> first | (rw [hk] at ha; cases ha; done) | simp), ha, Result.andThen_ok, if_true, run_sizeOf c.P w hi, Sem.run_ite, hl, Sem.run_pure, hs]
    · simp only [List.getElem_take, List.getElem_drop, List.getElem_toArray, List.getElem_map, List.getElem_range]
      exact hR _ _
  have sc : (tk c.P t).isAgg = false → tk c.P t ≠ .other → cs[off]? = some x → ∃ v, (loadVar t ⟨d, o + off, none⟩).run c.P w = .ok v w ∧ RS G T x v := by
    intro ha ho h
    obtain ⟨dd, hd⟩ := underlying_of_tk rfl ho
    obtain ⟨hlt, rfl⟩ := List.getElem?_eq_some_iff.1 h
    refine ⟨f off, ?_, hR off hlt⟩
    simp only [loadVar, Sem.run_bind, run_isAgg c.P w hd ho, ha, Result.andThen_ok, Sem.run_ite, Bool.false_eq_true, if_false, run_load, hc off hlt]
  cases hk : tk c.P t with
  | other => rw [hk] at h; cases h
  | struct fs => rw [hk] at h; exact agg (by rw [hk]; rfl) h
  | array n e => rw [hk] at h; exact agg (by rw [hk]; rfl) h
  | _ => rw [hk] at h; exact sc (by rw [hk]; rfl) (by rw [hk]; simp) h

theorem y_load {o : Oper} {t : TypeId} {a : Operand} {x : SV} (hop : o.op = .load t a) (hρ : ∀ x, RS G T (ρ x) (σ x))
    (himm : ∀ d o v, G.I d o = some v → w.cell? ⟨d, o, none⟩ = some v) (h : c.pure (.load t a) ρ = some x) : Yields c G T w σ o x := by
  refine .of_sem (s := Instr.loadAt t (σ a)) (by simp only [execOp, hop]) ?_
  simp only [Ctx.pure] at h
  split at h <;> first | (cases h; done) | skip
  rename_i cs hy
  have hra := (hρ a).1
  rw [hy] at hra
  generalize hva : σ a = va at *
  cases hra with
  | iptr _ cc oo f hI hR =>
    obtain ⟨v, h1, h2⟩ := loadVar_sound (T := T) (w := w) (d := cc) (o := oo) f (fun i hi => himm _ _ _ (hI i (by simpa using hi))) (fun i hi => by
      simp only [List.getElem_map]
      exact RS.no (hR i (by simpa using hi))) h
    exact ⟨v, by simpa [Instr.loadAt, Instr.sureAddr] using h1, h2⟩

theorem aNil_run (d : Nat) {t : TypeId} {x y : AV} {vx vy : Value} {r : Bool} (h : aNil (tk c.P t) x y = some r) (hx : R G x vx) (hy : R G y vy) :
    (Op.equalIn (d + 1) t vx vy).run c.P w = .ok r w := by
  unfold aNil at h
  split at h <;> first | (cases h; done) | skip
  all_goals
    cases h
    rename_i hk
    cases hx
    cases hy
  all_goals
    first
      | (obtain ⟨ms, hd⟩ := tk_iface hk
         simp [Op.equalIn, run_underlying c.P w hd]
         done)
      | (obtain ⟨dd, hd⟩ := underlying_of_tk hk (by simp)
         unfold tk at hk
         rw [hd] at hk
         cases dd <;> first
           | (cases hk; done)
           | (simp only at hk; split at hk <;> cases hk; done)
           | (simp [Op.equalIn, run_underlying c.P w hd]; done))
theorem aNil_shape {k : TK} {x y : AV} {vx vy : Value} {r : Bool} (h : aNil k x y = some r) (hx : R G x vx) (hy : R G y vy) :
    (∀ t, binOp .eql t vx vy = (do pure (.bool (← Op.equal t vx vy)))) ∧ (∀ t, binOp .neq t vx vy = (do pure (.bool (!(← Op.equal t vx vy))))) ∧ (∀ p q, vx = .agg p → vy = .agg q → False) := by
  unfold aNil at h
  split at h <;> first | (cases h; done) | skip
  all_goals
    cases h
    cases hx
    cases hy
    refine ⟨fun t => rfl, fun t => rfl, fun p q h _ => by cases h⟩

theorem y_binOp {o : Oper} {op : BinOp} {t t' : TypeId} {a b : Operand} {x : SV} (hop : o.op = .binOp op t a b t') (hρ : ∀ x, RS G T (ρ x) (σ x)) (h : c.pure (.binOp op t a b t') ρ = some x) : Yields c G T w σ o x := by
  have hra := (hρ a).1
  have hrb := (hρ b).1
  have guard0 : ∀ va vb, (∀ p q, va = .agg p → vb = .agg q → False) → (va = .nilIface → vb = .nilIface → False) → (eqGuard op t a b va vb).run c.P w = .ok () w := by
    intro va vb h1 h2
    unfold eqGuard
    cases op <;> simp
    all_goals
      split
      · exact absurd rfl (fun _ => h2 rfl rfl)
      · exact absurd rfl (fun _ => h1 _ _ rfl rfl)
      · rfl
  have fin : ∀ v, (eqGuard op t a b (σ a) (σ b)).run c.P w = .ok () w → (binOp op t (σ a) (σ b)).run c.P w = .ok v w → RS G T x v → Yields c G T w σ o x := by
    intro v h1 h2 h3
    exact ⟨v, by simp [execOp, hop, h1, h2], h3⟩
  simp only [Ctx.pure] at h
  generalize (ρ a).1 = xx at h hra
  generalize (ρ b).1 = yy at h hrb
  split at h
  · rename_i xs ys
    split at h
    · cases h
    rename_i hg
    have ha : (tk c.P t).isAgg = true := by simp at hg; exact hg.2
    have hg' : c.P.eqGuardType c.P.depth t = false := by simp at hg; exact hg.1
    generalize hva : σ a = va at *
    generalize hvb : σ b = vb at *
    have key : ∀ r, c.eqAt 20 t xs ys = some r → ∃ vx vy, va = .agg vx ∧ vb = .agg vy ∧ (Op.equalIn 10000 t (.agg vx) (.agg vy)).run c.P w = .ok r w := by
      intro r hr
      cases hra with
      | agg _ vx hlx hRx =>
        cases hrb with
        | agg _ vy hly hRy =>
          have := eqAt_sound (c := c) (G := G) (w := w) 9980 20 t xs ys vx vy r hr ⟨hlx, hRx⟩ ⟨hly, hRy⟩
          refine ⟨vx, vy, rfl, rfl, ?_⟩
          simpa [valOf, ha] using this
    split at h <;> first | (cases h; done) | skip
    · rename_i r hr
      cases h
      obtain ⟨vx, vy, rfl, rfl, he⟩ := key r hr
      exact fin (.bool r) (run_eqGuard_agg w .eql t a b vx vy hg') (by rw [run_eql_struct, he]; rfl) (RS.no (.bool _))
    · rename_i r hr
      cases h
      obtain ⟨vx, vy, rfl, rfl, he⟩ := key r hr
      exact fin (.bool (!r)) (run_eqGuard_agg w .neq t a b vx vy hg') (by rw [run_neq_struct, he]; rfl) (RS.no (.bool _))
  · simp only [Option.map_eq_some_iff] at h
    obtain ⟨z, hz, rfl⟩ := h
    generalize hva : σ a = va at *
    generalize hvb : σ b = vb at *
    cases hra
    rename_i k n
    unfold aBin at hz
    split at hz <;> first | (cases hz; done) | (rename_i hh; cases hh; done) | skip
    rename_i k1 a1 k2 b1 h1
    cases h1
    cases hrb
    have hg := guard0 (.int k n) (.int k2 b1) (fun _ _ h _ => by cases h) (fun h _ => by cases h)
    have sh : ∀ z, aShift op k n b1 = some z → op = .shl ∨ op = .shr → ∃ v, (binOp op t (.int k n) (.int k2 b1)).run c.P w = .ok v w ∧ R G z v := by
      intro z hz hop
      obtain ⟨v, h1, h2⟩ := aShift_sound (c := c) (G := G) (w := w) (yk := k2) hz
      refine ⟨v, ?_, h2⟩
      rcases hop with rfl | rfl <;> exact h1
    have run : ∃ v, (binOp op t (.int k n) (.int k2 b1)).run c.P w = .ok v w ∧ R G z v := by
      split at hz
      · exact sh _ hz (.inl rfl)
      · exact sh _ hz (.inr rfl)
      · obtain ⟨hk, hz'⟩ := Option.ite_none_right_eq_some.1 hz
        subst hk
        exact aInt_sound hz'
    obtain ⟨v, h1, h2⟩ := run
    exact fin v hg h1 (RS.no h2)
  · simp only [Option.map_eq_some_iff] at h
    obtain ⟨z, hz, rfl⟩ := h
    generalize hva : σ a = va at *
    generalize hvb : σ b = vb at *
    cases hra
    rename_i s
    unfold aBin at hz
    split at hz <;> first | (cases hz; done) | (rename_i hh; cases hh; done) | skip
    rename_i s1 s2 h1
    cases h1
    cases hrb
    obtain ⟨v, h1, h2⟩ := aStr_sound (c := c) (G := G) (w := w) (t := t) hz
    exact fin v (guard0 _ _ (fun _ _ h _ => by cases h) (fun h _ => by cases h)) h1 (RS.no h2)
  · simp only [Option.map_eq_some_iff] at h
    obtain ⟨z, hz, rfl⟩ := h
    generalize hva : σ a = va at *
    generalize hvb : σ b = vb at *
    cases hra
    rename_i s
    unfold aBin at hz
    split at hz <;> first | (cases hz; done) | (rename_i hh; cases hh; done) | skip
    rename_i s1 s2 h1
    cases h1
    cases hrb
    have hg := guard0 (.bool s) (.bool s2) (fun _ _ h _ => by cases h) (fun h _ => by cases h)
    split at hz <;> first | (cases hz; done) | skip
    · rename_i hk
      cases hz
      exact fin (.bool (s == s2)) hg (by have := run_equalIn_bool' w 9999 t s s2 (tk_bool hk); simp only [binOp, Sem.run_bind, Op.equal, Op.maxDepth, this]; rfl) (RS.no (.bool _))
    · rename_i hk
      cases hz
      exact fin (.bool (!(s == s2))) hg (by have := run_equalIn_bool' w 9999 t s s2 (tk_bool hk); simp only [binOp, Sem.run_bind, Op.equal, Op.maxDepth, this]; rfl) (RS.no (.bool _))
  · obtain ⟨hc, h⟩ := Option.ite_none_right_eq_some.1 h
    have key : ∀ r, aNil (tk c.P t) xx yy = some r → (eqGuard .eql t a b (σ a) (σ b)).run c.P w = .ok () w ∧ (eqGuard .neq t a b (σ a) (σ b)).run c.P w = .ok () w ∧
        (binOp .eql t (σ a) (σ b)).run c.P w = .ok (.bool r) w ∧ (binOp .neq t (σ a) (σ b)).run c.P w = .ok (.bool (!r)) w := by
      intro r hr
      obtain ⟨e1, e2, e3⟩ := aNil_shape hr hra hrb
      have he : (Op.equal t (σ a) (σ b)).run c.P w = .ok r w := aNil_run 9999 hr hra hrb
      have gd : ∀ op, (eqGuard op t a b (σ a) (σ b)).run c.P w = .ok () w := by
        intro op
        unfold eqGuard
        cases op <;> simp only [reduceCtorEq, Bool.not_false, Bool.not_true, if_true, Bool.false_eq_true, if_false] <;> first
          | rfl
          | (split
             · clear hra hrb hr e1 e2 e3 he fin guard0 hop h hρ
               cases a <;> cases b <;> first | rfl | (simp [isConst] at hc; done)
             · rename_i h1 h2; exact absurd (e3 _ _ h1 h2) id
             · rfl)
      exact ⟨gd .eql, gd .neq, by rw [e1]; simp [he], by rw [e2]; simp [he]⟩
    split at h <;> first | (cases h; done) | skip
    · have hr := ‹aNil _ _ _ = some _›
      cases h
      obtain ⟨h1, h2, h3, h4⟩ := key _ hr
      exact fin _ h1 h3 (RS.no (.bool _))
    · have hr := ‹aNil _ _ _ = some _›
      cases h
      obtain ⟨h1, h2, h3, h4⟩ := key _ hr
      exact fin _ h2 h4 (RS.no (.bool _))
end
end Go.Ab
