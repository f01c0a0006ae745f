import Derived.Test.YtdiphholophdcaaAbS
set_option linter.unusedVariables false
set_option linter.unusedSimpArgs false
/- CONDITIONS OF OPERATIONS THAT MOVE THE STATE; of regions. -/
namespace Go.Ab
open Go.RowKit

/-- v leads below block n; then K -/
def lowW1 (n : Nat) (x : AV) (K : Prop) : Prop := match x with
  | .sl xs => AV.lows 0 xs = true ∧ K
  | .iface _ (.sl xs) => AV.lows 0 xs = true ∧ K
  | x => onlyIf (x.low n) K
def lowWs (n : Nat) : List AV → Prop → Prop
  | [], K => K
  | x :: xs, K => lowW1 n x (lowWs n xs K)
def lowW (n : Nat) (x : AV) (K : Prop) : Prop := match x with
  | .agg cs => lowWs n cs K
  | .tup cs => lowWs n cs K
  | x => lowW1 n x K
theorem lowW1_iff {n : Nat} {x : AV} {K : Prop} (h : lowW1 n x K) : x.low n = true ∧ K := by
  unfold lowW1 at h
  split at h
  · exact ⟨by simp only [AV.low]; exact AV.lows_mono (Nat.zero_le _) h.1, h.2⟩
  · exact ⟨by simp only [AV.low]; exact AV.lows_mono (Nat.zero_le _) h.1, h.2⟩
  · exact onlyIf_iff h
theorem lowWs_iff {n : Nat} : ∀ {xs : List AV} {K : Prop}, lowWs n xs K → AV.lows n xs = true ∧ K
  | [], K, h => ⟨rfl, h⟩
  | x :: xs, K, h => by
    obtain ⟨h1, h2⟩ := lowW1_iff h
    obtain ⟨h3, h4⟩ := lowWs_iff h2
    exact ⟨by simp [AV.lows, h1, h3], h4⟩
theorem lowW_iff {n : Nat} {x : AV} {K : Prop} (h : lowW n x K) : x.low n = true ∧ K := by
  unfold lowW at h
  split at h
  · exact lowWs_iff h
  · exact lowWs_iff h
  · exact lowW1_iff h
def lowAll (n : Nat) : List SV → Prop → Prop
  | [], K => K
  | x :: xs, K => lowW n x.1 (lowAll n xs K)
theorem lowAll_iff {n : Nat} : ∀ {xs : List SV} {K : Prop}, lowAll n xs K → (∀ x ∈ xs, x.1.low n = true) ∧ K
  | [], K, h => ⟨by simp, h⟩
  | x :: xs, K, h => by
    obtain ⟨h1, h2⟩ := lowW_iff h
    obtain ⟨h3, h4⟩ := lowAll_iff h2
    exact ⟨fun y hy => by rcases List.mem_cons.1 hy with rfl | hy; exact h1; exact h3 y hy, h4⟩

/-- the kind of a cell that lies open -/
def ckOf : AV → CK
  | .int k _ => .int k
  | .bool _ => .bool
  | .str _ => .str
  | .sl _ => .sl
  | _ => .other
/-- what is stored -/
def keptCells (older : Bool) (o : Nat) (old new : List SV) : List SV := new.zipIdx.map fun (x, i) => (x.1, keepTag older x.2 (old.getD (o + i) (.undef, .no)).2)
theorem storeCells_kept {n0 b o : Nat} {old new : List SV} (h : ∀ x ∈ new, x.1.low (b + 1) = true) : storeCells n0 b o old new = replaceAt old o (keptCells (decide (b < n0)) o old new) := by
  unfold storeCells keptCells
  congr 1
  refine List.map_congr_left fun q hq => ?_
  obtain ⟨x, i⟩ := q
  have hx : x ∈ new := by
    have := List.mem_zipIdx hq
    rw [this.2.2]
    exact List.getElem_mem _
  simp only [keepIn, h x hx, if_true]

def Env0.storeW (e : Env0) (t : TypeId) (tg : Tag) (b o : Nat) (new : List SV) (S : St) (K : SV → St → Prop) : Prop :=
  match S.H[b]? with
  | none => False
  | some cells => match (match tg with | .no => bigA e.c.P t | _ => false) with
    | true => (new.length = tsz e.c.P t ∧ 1 ≤ tsz e.c.P t ∧ (∀ y ∈ new, y.1.isCell = true ∧ y.1.low (b + 1) = true) ∧ o + tsz e.c.P t ≤ cells.length) ∧ ∀ cells', cells' = replaceAt cells o (keptCells (decide (b < e.n0)) o cells new) → K (.tup [], .no) ⟨S.H.set b cells', S.T⟩
    | false => onlyIf (decide (new.length = tsz e.c.P t) && decide (1 ≤ tsz e.c.P t) && new.all (fun y => y.1.isCell)) <| lowAll (b + 1) new <| match tg with
      | .no => onlyIf (decide (o + tsz e.c.P t ≤ cells.length)) (K (.tup [], .no) ⟨S.H.set b (replaceAt cells o (keptCells (decide (b < e.n0)) o cells new)), S.T⟩)
      | .full => o + tsz e.c.P t ≤ cells.length ∧ openW (cells.map (ckOf ·.1)) [] ((replaceAt cells o (keptCells (decide (b < e.n0)) o cells new)).map (·.1)) fun cs =>
          replaceAt cells o (keptCells (decide (b < e.n0)) o cells new) = cs.map (·, Tag.no) ∧ K (.tup [], .no) ⟨S.H.set b (cs.map (·, Tag.no)), S.T⟩
      | _ => o + tsz e.c.P t ≤ cells.length ∧ ∀ cells', cells' = replaceAt cells o (keptCells (decide (b < e.n0)) o cells new) → K (.tup [], .no) ⟨S.H.set b cells', S.T⟩

theorem storeW_sound {e : Env0} {t : TypeId} {a x : Operand} {ρ : Operand → SV} {tg : Tag} {b o : Nat} {S : St} {K Kp : SV → St → Prop} (ha : ρ a = (.ptr b o, tg)) (h : e.storeW t tg b o (expand (ρ x)) S K) :
    ∃ v S', e.act (.store t a x) ρ S = some (.ok v S') ∧ K v S' := by
  unfold Env0.storeW at h
  split at h
  · exact h.elim
  · rename_i cells hb
    have fin2 : (expand (ρ x)).length = tsz e.c.P t → 1 ≤ tsz e.c.P t → (expand (ρ x)).all (fun y => y.1.isCell) = true → (∀ y ∈ expand (ρ x), y.1.low (b + 1) = true) → o + tsz e.c.P t ≤ cells.length →
        e.act (.store t a x) ρ S = some (.ok (.tup [], .no) ⟨S.H.set b (replaceAt cells o (keptCells (decide (b < e.n0)) o cells (expand (ρ x)))), S.T⟩) := by
      intro h1 h2 h3 hl hle
      have hst := storeCells_kept (n0 := e.n0) (b := b) (o := o) (old := cells) hl
      simp only [Env0.act, ha, hb]
      rw [if_pos ⟨h1, h2, hle, h3⟩, hst]
    split at h
    · obtain ⟨⟨h1, h2, h3, h4⟩, h5⟩ := h
      exact ⟨_, _, fin2 h1 h2 (List.all_eq_true.2 fun y hy => (h3 y hy).1) (fun y hy => (h3 y hy).2) h4, h5 _ rfl⟩
    · obtain ⟨hk, h⟩ := onlyIf_iff h
      obtain ⟨hl, h⟩ := lowAll_iff h
      simp only [Bool.and_eq_true, decide_eq_true_eq] at hk
      have fin := fin2 hk.1.1 hk.1.2 hk.2 hl
      split at h
      · obtain ⟨h1, h2⟩ := onlyIf_iff h
        exact ⟨_, _, fin (of_decide_eq_true h1), h2⟩
      · obtain ⟨h1, h2⟩ := h
        obtain ⟨h3, h4⟩ := openW_sound _ _ _ _ h2
        refine ⟨_, _, fin h1, ?_⟩
        rw [← h3] at h4
        exact h4
      · exact ⟨_, _, fin h.1, h.2 _ rfl⟩

def Env0.addedW (e : Env0) (S : St) (elem : TypeId) (k : TK) (x : AV) (K : List AV → Prop) : Prop := match x, k with
  | .sl ys, .slice _ => szOk ys (tsz e.c.P elem) = true ∧ K ys
  | .str y, .string => match tk e.c.P elem with
    | .int .u8 => onlyIf (decide (tsz e.c.P elem = 1)) (K (toBytes y))
    | _ => False
  | _, _ => optP (e.added S elem k x) K
theorem addedW_sound {e : Env0} {S : St} {elem : TypeId} {k : TK} {x : AV} {K : List AV → Prop} (h : e.addedW S elem k x K) : ∃ ys, e.added S elem k x = some ys ∧ K ys := by
  unfold Env0.addedW at h
  split at h
  · exact ⟨_, by simp only [Env0.added, h.1, if_true], h.2⟩
  · split at h
    · rename_i hke
      obtain ⟨c1, c2⟩ := onlyIf_iff h
      exact ⟨_, by simp only [Env0.added, hke]; rw [if_pos (of_decide_eq_true c1)], c2⟩
    · exact h.elim
  · exact optP_iff.1 h
def Env0.appendW (e : Env0) (t t2 : TypeId) (s x : SV) (S : St) (K : SV → St → Prop) : Prop :=
  match tk e.c.P t, s.1 with
  | .slice elem, .sl xs =>
    onlyIf (decide (1 ≤ tsz e.c.P elem) && decide (tsz e.c.P elem ≤ 256) && decide (e.c.P.bytesOf elem ≤ 4096) && hasZero e.c.P elem && decide ((tz e.c.P elem).length = tsz e.c.P elem)) <|
    szOk xs (tsz e.c.P elem) = true ∧ e.addedW S elem (tk e.c.P t2) x.1 fun ys =>
    xs.length + ys.length ≤ maxLen ∧ (match s.2 with
      | .tok id => S.T[id]? = some xs.length ∧ (ys.isEmpty = true → K s S) ∧ (ys.isEmpty = false → K (.sl (xs ++ ys), .tok id) ⟨S.H, S.T.set id (xs.length + ys.length)⟩)
      | .full => (ys.isEmpty = true → K s S) ∧ (ys.isEmpty = false → K (.sl (xs ++ ys), .tok S.T.length) ⟨S.H, S.T ++ [xs.length + ys.length]⟩)
      | _ => False)
  | _, _ => False
theorem appendW_sound {e : Env0} {t t2 : TypeId} {s x : SV} {S : St} {K : SV → St → Prop} (h : e.appendW t t2 s x S K) : ∃ v S', e.append t t2 s x S = some (.ok v S') ∧ K v S' := by
  unfold Env0.appendW at h
  split at h
  · rename_i elem xs hk hx
    obtain ⟨h1, h2, h3⟩ := onlyIf_iff h
    simp only [Bool.and_eq_true, decide_eq_true_eq] at h1
    obtain ⟨⟨⟨⟨a1, a2⟩, a3⟩, a4⟩, a5⟩ := h1
    obtain ⟨ys, hadd, b1, b2⟩ := addedW_sound h3
    unfold Env0.append
    simp only [hk, hx, h2, if_true, hadd]
    rw [if_pos ⟨b1, a1, a2, a3, a4, a5⟩]
    split at b2
    · rename_i id ht
      rw [ht]
      simp only [b2.1, if_true]
      cases hy : ys.isEmpty with
      | true => exact ⟨_, _, rfl, b2.2.1 hy⟩
      | false => exact ⟨_, _, rfl, b2.2.2 hy⟩
    · rename_i ht
      rw [ht]
      cases hy : ys.isEmpty with
      | true => exact ⟨_, _, rfl, b2.1 hy⟩
      | false => exact ⟨_, _, rfl, b2.2 hy⟩
    · exact b2.elim
  · exact h.elim

def Env0.actW (e : Env0) (tab : Tab) (op : Op) (ρ : Operand → SV) (S : St) (K Kp : SV → St → Prop) : Prop :=
  match op with
  | .alloc t => onlyIf (hasZero e.c.P t) (K (.ptr S.H.length 0, .no) ⟨S.H ++ [(e.zeroVar t S.T.length).1], S.T ++ (e.zeroVar t S.T.length).2⟩)
  | .box t x => onlyIf (ρ x).1.known (K (.ptr S.H.length 0, .no) ⟨S.H ++ [(newCells (e.pre t) (expand (ρ x)) S.T.length).1], S.T ++ (newCells (e.pre t) (expand (ρ x)) S.T.length).2⟩)
  | .store t a x => match ρ a with
    | (.ptr b o, tg) => e.storeW t tg b o (expand (ρ x)) S K
    | _ => False
  | .panic x => match (ρ x).1 with
    | .iface t v => Kp (.iface t v, .no) S
    | _ => False
  | .call { callee := .value f, args, .. } => match (ρ f).1 with
    | .fn k first cap => match tab k with
      | some sp => sp.wp (first.map (·, .no) ++ args.toList.map ρ ++ cap.map (·, .no)) S K (fun v S' => Kp (v, .no) S')
      | none => False
    | _ => False
  | .call { callee := .builtin .append, args, argTypes } => match args.toList, argTypes.toList with
    | [s, x], [t, t2] => e.appendW t t2 (ρ s) (ρ x) S K
    | _, _ => False
  | .convert src dst x => match (ρ x).1, tk e.c.P dst with
    | .str s, .slice elem => match tk e.c.P elem with
      | .int .u8 => onlyIf (!(tk e.c.P src).isOther) (K (.slr S.H.length 0 s.length, .no) ⟨S.H ++ [(toBytes s).map (·, .no)], S.T⟩)
      | _ => False
    | _, _ => False
  | op => ∃ r, e.act op ρ S = some r ∧ (match r with
    | .ok v S' => K v S'
    | .panic v S' => Kp (v, .no) S')
def ARes.to (r : ARes) (K Kp : SV → St → Prop) : Prop := match r with
  | .ok v S' => K v S'
  | .panic v S' => Kp (v, .no) S'
theorem actW_sound {e : Env0} {tab : Tab} (he : e.call = callOf tab) {op : Op} {ρ : Operand → SV} {S : St} {K Kp : SV → St → Prop} (h : e.actW tab op ρ S K Kp) : ∃ r, e.act op ρ S = some r ∧ r.to K Kp := by
  unfold Env0.actW at h
  split at h
  · obtain ⟨h1, h2⟩ := onlyIf_iff h
    exact ⟨.ok _ _, by simp only [Env0.act]; rw [if_pos h1]; rfl, h2⟩
  · obtain ⟨h1, h2⟩ := onlyIf_iff h
    exact ⟨.ok _ _, by simp only [Env0.act]; rw [if_pos h1]; rfl, h2⟩
  · split at h
    · rename_i b o tg hx
      obtain ⟨v, S', h1, h2⟩ := storeW_sound (Kp := Kp) hx h
      exact ⟨.ok v S', h1, h2⟩
    · exact h.elim
  · split at h
    · rename_i t v hx
      exact ⟨.panic (.iface t v) S, by simp only [Env0.act, hx], h⟩
    · exact h.elim
  · rename_i f args ts
    split at h
    · rename_i k first cap hx
      split at h
      · rename_i sp hsp
        obtain ⟨⟨out, S'⟩, h1, h2⟩ := Spec.run_to h
        have hc : e.call k (first.map (·, .no) ++ args.toList.map ρ ++ cap.map (·, .no)) S = some (out, S') := by rw [he]; simp only [callOf, hsp]; exact h1
        cases out with
        | ret v => exact ⟨.ok v S', by simp only [Env0.act, hx, hc], h2⟩
        | panic v => exact ⟨.panic v S', by simp only [Env0.act, hx, hc], h2⟩
      · exact h.elim
    · exact h.elim
  · split at h
    · rename_i s x t t2 ha ht
      obtain ⟨v, S', h1, h2⟩ := appendW_sound h
      exact ⟨.ok v S', by simp only [Env0.act, ha, ht]; exact h1, h2⟩
    · exact h.elim
  · split at h
    · rename_i s elem hx hd
      split at h
      · rename_i hel
        obtain ⟨h1, h2⟩ := onlyIf_iff h
        refine ⟨.ok _ _, ?_, h2⟩
        simp only [Env0.act, hx, hd, hel]
        rw [if_neg (by simpa using h1)]
      · exact h.elim
    · exact h.elim
  · obtain ⟨r, h1, h2⟩ := h
    exact ⟨r, h1, by cases r <;> exact h2⟩

/-- which of an operation's readings: act, or not -/
def isActOp (P : Program) : Op → Bool
  | .alloc _ | .box _ _ | .store _ _ _ | .makeSlice _ _ _ | .panic _ => true
  | .convert _ dst _ => match tk P dst with
    | .slice _ => true
    | _ => false
  | .call { callee := .builtin .append, .. } => true
  | .call { callee := .value _, .. } => true
  | _ => false
theorem pure_act {c : Ctx} {op : Op} {ρ : Operand → SV} {S : St} (h : isActOp c.P op = true) : c.pure op ρ = none ∧ c.read op ρ S = none := by
  unfold isActOp at h
  split at h <;> first
    | (simp at h; done)
    | (exact ⟨rfl, rfl⟩)
    | skip
  rename_i src dst x
  split at h <;> first | (cases h; done) | skip
  rename_i e he
  refine ⟨?_, ?_⟩
  · simp only [Ctx.pure, he]
    split
    · rfl
    · rfl
  · simp only [Ctx.read, he]

/-- where it is so; nothing is asked where it is known not to be -/
def implB (t w : Bool) (A : Prop) : Prop := match t, w with
  | true, true => A
  | false, false => A
  | _, _ => True
theorem implB_elim {t w : Bool} {A : Prop} (h : implB t w A) (e : t = w) : A := by
  subst e
  cases t <;> exact h
theorem implB_intro {t w : Bool} {A : Prop} (h : t = w → A) : implB t w A := by
  cases t <;> cases w <;> first | exact h rfl | exact trivial
/-- a slot whose truth is known -/
def setB (env : Env) (d : Nat) (v : Bool) : Env := env.set d (.bool v, (env.getD d (.undef, .no)).2)
theorem setB_eq {env : Env} {d : Nat} {v : Bool} (h : (env.getD d (.undef, .no)).1 = .bool v) : setB env d v = env := by
  unfold setB
  rcases Nat.lt_or_ge d env.length with hl | hl
  · have e : env.getD d (.undef, .no) = env[d] := by simp [List.getD, List.getElem?_eq_getElem hl]
    rw [e] at h ⊢
    rw [← h]
    exact List.set_getElem_self hl
  · exact List.set_eq_of_length_le hl
/-- an operation that is carried out -/
def Env0.runW (e : Env0) (tab : Tab) (op : Op) (ρ : Operand → SV) (S : St) (K Kp : SV → St → Prop) : Prop :=
  match isActOp e.c.P op with
  | true => e.actW tab op ρ S K Kp
  | false => readW e.c op ρ S fun v => K v S
def Env0.stepW (e : Env0) (tab : Tab) (ops : Array Oper) (o : Oper) (fr : Fr) (S : St) (K : Fr → St → Prop) (Kp : SV → Fr → St → Prop) : Prop :=
  match o.guard with
  | none => match o.op with
    | .defer { callee := .value f, args, .. } => match (e.c.eval fr.env f).1 with
      | .fn k first cap => K ({ fr with ds := (k, (first ++ args.toList.map (fun x => (e.c.eval fr.env x).1) ++ cap).map fun v => ((v, Tag.no) : SV)) :: fr.ds }.put o.dst (.tup [], .no)) S
      | _ => False
    | op => e.runW tab op (e.c.eval fr.env) S (fun v S' => K (fr.put o.dst v) S') (fun v S' => Kp v fr S')
  | some (j, want) => match (ops[j]?).bind (·.dst) with
    | some d => match (fr.env.getD d (.undef, .no)).1 with
      | .bool b => implB b want (match o.op with
          | .defer _ => False
          | op => e.runW tab op (e.c.eval (setB fr.env d want)) S (fun v S' => K (Fr.put ⟨setB fr.env d want, fr.ds⟩ o.dst v) S') (fun v S' => Kp v ⟨setB fr.env d want, fr.ds⟩ S')) ∧ implB b (!want) (K (Fr.put ⟨setB fr.env d (!want), fr.ds⟩ o.dst (.tup [], .no)) S)
      | .tup [] => K (fr.put o.dst (.tup [], .no)) S
      | _ => False
    | none => False
def ORes.to (r : ORes) (K : Fr → St → Prop) (Kp : SV → Fr → St → Prop) : Prop := match r with
  | .ok fr S => K fr S
  | .panic v fr S => Kp (v, .no) fr S
theorem runW_sound {e : Env0} {tab : Tab} (he : e.call = callOf tab) {ops : Array Oper} {o : Oper} {fr : Fr} {S : St} {K : Fr → St → Prop} {Kp : SV → Fr → St → Prop} (hw : wantedA ops fr.env o = some true) (hnd : ∀ cl, o.op ≠ .defer cl)
    (h : e.runW tab o.op (e.c.eval fr.env) S (fun v S' => K (fr.put o.dst v) S') (fun v S' => Kp v fr S')) : ∃ r, e.step ops o fr S = some r ∧ r.to K Kp := by
  unfold Env0.step
  simp only [hw]
  unfold Env0.runW at h
  split at h
  · rename_i ha
    obtain ⟨r, h1, h2⟩ := actW_sound he h
    obtain ⟨h3, h4⟩ := pure_act (ρ := e.c.eval fr.env) (S := S) ha
    split
    · rename_i hop; exact absurd hop (hnd _)
    · rw [h3, h4, h1]
      cases r with
      | ok v S' => exact ⟨_, rfl, h2⟩
      | panic v S' => exact ⟨_, rfl, h2⟩
  · rename_i ha
    obtain ⟨v, h1, h2⟩ := readW_sound h
    unfold pureOrRead at h1
    split
    · rename_i hop; exact absurd hop (hnd _)
    · split at h1
      · rename_i v' hv; cases h1; rw [hv]; exact ⟨_, rfl, h2⟩
      · rename_i hv; rw [hv, h1]; exact ⟨_, rfl, h2⟩
theorem stepW_sound {e : Env0} {tab : Tab} (he : e.call = callOf tab) {ops : Array Oper} {o : Oper} {fr : Fr} {S : St} {K : Fr → St → Prop} {Kp : SV → Fr → St → Prop} (h : e.stepW tab ops o fr S K Kp) : ∃ r, e.step ops o fr S = some r ∧ r.to K Kp := by
  unfold Env0.stepW at h
  have off : wantedA ops fr.env o = some false → K (fr.put o.dst (.tup [], .no)) S → ∃ r, e.step ops o fr S = some r ∧ r.to K Kp := by
    intro hw hr
    exact ⟨.ok _ S, by unfold Env0.step; simp only [hw], hr⟩
  split at h
  · rename_i hg
    have hw : wantedA ops fr.env o = some true := by simp [wantedA, hg]
    split at h
    · rename_i f args ts hop
      split at h
      · rename_i k first cap hf
        exact ⟨.ok _ S, by unfold Env0.step; simp only [hw, hop, hf], h⟩
      · exact h.elim
    · rename_i hnd
      by_cases hd : ∃ cl, o.op = .defer cl
      · exfalso
        obtain ⟨⟨callee, args, ts⟩, hd⟩ := hd
        rw [hd] at h
        cases callee with
        | value f => exact hnd f args ts hd
        | builtin b =>
          simp only [Env0.runW, isActOp, readW, pureW, Ctx.pure, optP] at h
        | invoke =>
          simp only [Env0.runW, isActOp, readW, pureW, Ctx.pure, optP] at h
      · exact runW_sound he hw (fun cl hc => hd ⟨cl, hc⟩) h
  · rename_i j want hg
    split at h
    · rename_i d hd
      split at h
      · rename_i b hb
        have hw : wantedA ops fr.env o = some (b == want) := by simp only [wantedA, hg, hd, hb]
        by_cases hbw : b = want
        · have h1 := implB_elim h.1 hbw
          rw [setB_eq (v := want) (by rw [← hbw]; exact hb)] at h1
          split at h1
          · exact h1.elim
          · rename_i hnd
            exact runW_sound he (by rw [hw, hbw]; cases want <;> rfl) (fun cl hc => hnd cl hc) h1
        · have hbw' : b = !want := by clear hw h off; cases b <;> cases want <;> first | rfl | exact absurd rfl hbw
          have h2 := implB_elim h.2 hbw'
          rw [setB_eq (v := !want) (by rw [← hbw']; exact hb)] at h2
          exact off (by rw [hw, hbw']; cases want <;> rfl) h2
      · rename_i hb; exact off (by simp only [wantedA, hg, hd, hb]) h
      · exact h.elim
    · exact h.elim

def Env0.opsW (e : Env0) (tab : Tab) (ops : Array Oper) (Q : Post1) : List Oper → Fr → St → Prop
  | [], fr, S => Q .normal fr S
  | o :: rest, fr, S => e.stepW tab ops o fr S (fun fr S => e.opsW tab ops Q rest fr S) (fun v fr S => Q (.panic v.1) fr S)
theorem opsW_sound {e : Env0} {tab : Tab} (he : e.call = callOf tab) {ops : Array Oper} {Q : Post1} : ∀ (l : List Oper) (fr : Fr) (S : St), e.opsW tab ops Q l fr S → ∃ r, e.ops ops l fr S = some r ∧ r.to (Q .normal) (fun v => Q (.panic v.1)) := by
  intro l
  induction l with
  | nil => intro fr S h; exact ⟨.ok fr S, rfl, h⟩
  | cons o l ih =>
    intro fr S h
    simp only [Env0.opsW] at h
    obtain ⟨r, h1, h2⟩ := stepW_sound he h
    cases r with
    | ok fr' S' =>
      obtain ⟨r2, h3, h4⟩ := ih fr' S' h2
      exact ⟨r2, by simp only [Env0.ops, h1]; exact h3, h4⟩
    | panic v fr' S' => exact ⟨.panic v fr' S', by simp only [Env0.ops, h1], h2⟩
end Go.Ab
