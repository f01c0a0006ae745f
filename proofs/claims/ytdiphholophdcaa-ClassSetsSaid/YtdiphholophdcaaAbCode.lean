import Derived.Test.YtdiphholophdcaaAbStep2
set_option linter.unusedVariables false
set_option linter.unusedSimpArgs false
/- CODE: regions in the text's order, loops, blocks. -/
namespace Go.Ab
open Go.RowKit

/-- an end of code stands for the machine's -/
def ExR (G : Gh) : Ex → Exit → Prop
  | .normal, .normal => True
  | .exit i, .exit j => i = j
  | .ret, .ret => True
  | .panic x, .panic ch => ∃ v, ch = [{ v := v, recovered := false }] ∧ R G x v
  | _, _ => False

section
variable {c : Ctx} {B : Bd} {w0 : World}

/-- what is asked behind code that came to this -/
def Post (c : Ctx) (B : Bd) (w0 : World) (G : Gh) (T : List Nat) (r : Ex × Fr × St) (Q : Exit → Act → World → Prop) : Prop :=
  ∀ G' ex a' w', ExR G' r.1 ex → Inv c B w0 G' r.2.2 w' → Grows G T G' r.2.2.T → FrR G' r.2.2.T r.2.1 a' → Q ex a' w'

theorem Post.trans {G G1 : Gh} {T T1 : List Nat} {r : Ex × Fr × St} {Q : Exit → Act → World → Prop} (g : Grows G T G1 T1) (h : Post c B w0 G T r Q) : Post c B w0 G1 T1 r Q :=
  fun G' ex a' w' h1 h2 h3 h4 => h G' ex a' w' h1 h2 (g.trans h3) h4

theorem ops_sound {e : Env0} (he : e.c = c) (hcall : CallSound c e.call) {ops : Array Oper} {Q : Exit → Act → World → Prop} : ∀ (rest : List Oper) (k : Nat), rest = ops.toList.drop k →
    ∀ (fr : Fr) (S : St) (r : ORes) (a : Act) (w : World) (G : Gh), e.ops ops rest fr S = some r → Inv c B w0 G S w → FrR G S.T fr a →
      (∀ fr' S', r = .ok fr' S' → ∀ G' a' w', Inv c B w0 G' S' w' → Grows G S.T G' S'.T → FrR G' S'.T fr' a' → Q .normal a' w') →
      (∀ x fr' S', r = .panic x fr' S' → ∀ G' a' w' v, Inv c B w0 G' S' w' → Grows G S.T G' S'.T → FrR G' S'.T fr' a' → R G' x v → Q (.panic [{ v := v, recovered := false }]) a' w') →
      wpOps c.P ops Q (List.range' k rest.length) a w := by
  intro rest
  induction rest with
  | nil =>
    intro k hk fr S r a w G h inv hfr hok hpan
    simp only [Env0.ops] at h
    cases h
    exact hok _ _ rfl G a w inv (.refl _ _) hfr
  | cons o rest ih =>
    intro k hk fr S r a w G h inv hfr hok hpan
    have hlt : k < ops.size := by
      rcases Nat.lt_or_ge k ops.size with hl | hl
      · exact hl
      · rw [List.drop_of_length_le (by simpa using hl)] at hk; cases hk
    have ho : ops[k]? = some o := by
      have h1 : ops.toList.drop k = ops.toList[k]'(by simpa using hlt) :: ops.toList.drop (k + 1) := List.drop_eq_getElem_cons _
      rw [h1] at hk
      cases hk
      simp [hlt]
    have hrest : rest = ops.toList.drop (k + 1) := by
      have h1 : ops.toList.drop k = ops.toList[k]'(by simpa using hlt) :: ops.toList.drop (k + 1) := List.drop_eq_getElem_cons _
      rw [h1] at hk
      cases hk
      rfl
    simp only [List.length_cons, List.range'_succ, wpOps, ho]
    simp only [Env0.ops] at h
    have key : ∀ r1, e.step ops o fr S = some r1 → OpWp c.P ops o a w (wpOps c.P ops Q (List.range' (k + 1) rest.length)) Q := by
      intro r1 hs
      rw [hs] at h
      refine step_sound he hcall inv hfr hs (fun fr' S' hr G' a' w' i g f => ?_) (fun x fr' S' hr G' w' v i g f hv => ?_)
      · subst hr
        exact ih (k + 1) hrest fr' S' r a' w' G' h i f (fun fr2 S2 hr2 G2 a2 w2 i2 g2 f2 => hok fr2 S2 hr2 G2 a2 w2 i2 (g.trans g2) f2)
          (fun x fr2 S2 hr2 G2 a2 w2 v i2 g2 f2 hv => hpan x fr2 S2 hr2 G2 a2 w2 v i2 (g.trans g2) f2 hv)
      · subst hr
        simp only at h
        cases h
        exact hpan x fr' S' rfl G' a w' v i g f hv
    cases hs : e.step ops o fr S with
    | none => rw [hs] at h; cases h
    | some r1 => exact key r1 hs

theorem region_sound {e : Env0} (he : e.c = c) (hcall : CallSound c e.call) {ops : Array Oper} {id : Nat} {fr : Fr} {S : St} {r : Ex × Fr × St} {a : Act} {w : World} {G : Gh} {Q : Exit → Act → World → Prop}
    (h : e.region ops false fr S = some r) (inv : Inv c B w0 G S w) (hfr : FrR G S.T fr a) (hq : Post c B w0 G S.T r Q) : (Code.region id ops false).wp c.P Q a w := by
  refine wp_region ?_
  simp only [Env0.region, Bool.false_eq_true, if_false] at h
  have hl : ops.toList.length = ops.size := by simp
  rw [List.range_eq_range', ← hl]
  cases ho : e.ops ops ops.toList fr S with
  | none => rw [ho] at h; cases h
  | some r1 =>
    rw [ho] at h
    refine ops_sound he hcall ops.toList 0 (by simp) fr S r1 a w G ho inv hfr (fun fr' S' hr G' a' w' i g f => ?_) (fun x fr' S' hr G' a' w' v i g f hv => ?_)
    · subst hr
      cases h
      exact hq G' .normal a' w' trivial i g f
    · subst hr
      cases h
      exact hq G' _ a' w' ⟨v, rfl, hv⟩ i g f
end
end Go.Ab
