import Derived.Test.YtdiphholophdcaaAbPure
import Derived.Laws.StructEq
import Derived.Laws.Strings
set_option linter.unusedVariables false
set_option linter.unusedSimpArgs false
namespace Go.Ab
section
variable {c : Ctx} {G : Gh} {T : List Nat} {w : World}

theorem aBits_sound {op : BinOp} {k : IntKind} {x y : Int} {z : AV} (h : aBits op k x y = some z) : ∃ v, (Op.intBits op k x y).run c.P w = .ok v w ∧ R G z v := by
  unfold aBits at h
  cases op <;> simp only at h <;> first
    | (cases h; done)
    | (cases h; exact ⟨_, rfl, .int _ _⟩)
theorem aCmp_sound {op : BinOp} {x y : Int} {z : AV} (h : aCmp op x y = some z) : ∃ v, (Op.intCmp op x y).run c.P w = .ok v w ∧ R G z v := by
  unfold aCmp at h
  cases op <;> simp at h <;> subst h <;> exact ⟨_, rfl, .bool _⟩
theorem aShift_sound {op : BinOp} {k yk : IntKind} {x y : Int} {z : AV} (h : aShift op k x y = some z) : ∃ v, (Op.shift op k x yk y).run c.P w = .ok v w ∧ R G z v := by
  unfold aShift at h
  split at h
  · cases h
  · rename_i hy
    cases op <;> simp at h <;> subst h <;> exact ⟨_, by simp [Op.shift, hy], .int _ _⟩
theorem aInt_sound {op : BinOp} {t : TypeId} {k : IntKind} {x y : Int} {z : AV} (h : aInt op k x y = some z) :
    ∃ v, (binOp op t (.int k x) (.int k y)).run c.P w = .ok v w ∧ R G z v := by
  unfold aInt at h
  cases op <;> simp only at h <;> first
    | (obtain ⟨v, h1, h2⟩ := aBits_sound (c := c) (G := G) (w := w) h; exact ⟨v, by simp only [binOp, ne_eq, not_true_eq_false, if_false]; exact h1, h2⟩)
    | (cases h; exact ⟨_, by simp [binOp, Op.intArith], .int _ _⟩)
    | (split at h <;> first | (cases h; done) | (rename_i hy; cases h; exact ⟨_, by simp [binOp, Op.intDiv, hy], .int _ _⟩))
    | (obtain ⟨v, h1, h2⟩ := aBits_sound (c := c) (G := G) (w := w) h; exact ⟨v, by simp only [binOp, ne_eq, not_true_eq_false, if_false]; exact h1, h2⟩)
    | (obtain ⟨v, h1, h2⟩ := aCmp_sound (c := c) (G := G) (w := w) h; exact ⟨v, by simpa [binOp] using h1, h2⟩)
    | (cases h; done)
theorem toList_mk (l : List UInt8) : (⟨⟨l⟩⟩ : ByteArray).toList = l := by
  rw [ByteArray.toList_eq]
theorem size_mk (l : List UInt8) : (⟨⟨l⟩⟩ : ByteArray).size = l.length := rfl
theorem append_mk (a b : List UInt8) : (⟨⟨a⟩⟩ : ByteArray) ++ ⟨⟨b⟩⟩ = ⟨⟨a ++ b⟩⟩ := by
  apply ByteArray.ext
  simp
theorem aStr_sound {op : BinOp} {t : TypeId} {x y : List UInt8} {z : AV} (h : aStr op x y = some z) :
    ∃ v, (binOp op t (.string ⟨⟨x⟩⟩) (.string ⟨⟨y⟩⟩)).run c.P w = .ok v w ∧ R G z v := by
  unfold aStr at h
  cases op <;> simp only at h <;> first
    | (cases h; done)
    | (split at h <;> first | (cases h; done) | skip
       rename_i hle; cases h
       refine ⟨.string ⟨⟨x ++ y⟩⟩, ?_, .str _⟩
       have : ¬ ((((⟨⟨x⟩⟩ : ByteArray).size + (⟨⟨y⟩⟩ : ByteArray).size : Nat) : Int) > IntKind.i64.max) := by
         simp only [size_mk]; unfold maxStr at hle
         have : IntKind.i64.max = 9223372036854775807 := by decide
         omega
       simp only [binOp, Op.stringOp, this, if_false, append_mk]
       rfl)
    | (cases h; exact ⟨_, by simp only [binOp, Op.stringOp, toList_mk]; rfl, .bool _⟩)
end
end Go.Ab
