import Derived.Test.YtdiphholophdcabGreatDoorXSAbBeq
set_option linter.all false
namespace Go.Ab
mutual
theorem AV.beq_eq : ∀ (a b : AV), AV.beq a b = true → a = b
  | .undef , b, h => by
    unfold AV.beq at h
    split at h <;> first | (cases h; done) | skip
    rfl
  | .int a0 a1, b, h => by
    unfold AV.beq at h
    split at h <;> first | (cases h; done) | skip
    rename_i b0 b1
    simp only [Bool.and_eq_true] at h
    have e0 : a0 = b0 := of_decide_eq_true (h.1)
    have e1 : a1 = b1 := eq_of_beq (h.2)
    rw [e0, e1]
  | .bool a0, b, h => by
    unfold AV.beq at h
    split at h <;> first | (cases h; done) | skip
    rename_i b0
    have e0 : a0 = b0 := eq_of_beq (h)
    rw [e0]
  | .str a0, b, h => by
    unfold AV.beq at h
    split at h <;> first | (cases h; done) | skip
    rename_i b0
    have e0 : a0 = b0 := eq_of_beq (h)
    rw [e0]
  | .nilptr , b, h => by
    unfold AV.beq at h
    split at h <;> first | (cases h; done) | skip
    rfl
  | .ptr a0 a1, b, h => by
    unfold AV.beq at h
    split at h <;> first | (cases h; done) | skip
    rename_i b0 b1
    simp only [Bool.and_eq_true] at h
    have e0 : a0 = b0 := eq_of_beq (h.1)
    have e1 : a1 = b1 := eq_of_beq (h.2)
    rw [e0, e1]
  | .iptr a0, b, h => by
    unfold AV.beq at h
    split at h <;> first | (cases h; done) | skip
    rename_i b0
    have e0 : a0 = b0 := AV.beqs_eq a0 b0 (h)
    rw [e0]
  | .sl a0, b, h => by
    unfold AV.beq at h
    split at h <;> first | (cases h; done) | skip
    rename_i b0
    have e0 : a0 = b0 := AV.beqs_eq a0 b0 (h)
    rw [e0]
  | .slr a0 a1 a2, b, h => by
    unfold AV.beq at h
    split at h <;> first | (cases h; done) | skip
    rename_i b0 b1 b2
    simp only [Bool.and_eq_true] at h
    have e0 : a0 = b0 := eq_of_beq (h.1.1)
    have e1 : a1 = b1 := eq_of_beq (h.1.2)
    have e2 : a2 = b2 := eq_of_beq (h.2)
    rw [e0, e1, e2]
  | .buf a0 a1, b, h => by
    unfold AV.beq at h
    split at h <;> first | (cases h; done) | skip
    rename_i b0 b1
    simp only [Bool.and_eq_true] at h
    have e0 : a0 = b0 := eq_of_beq (h.1)
    have e1 : a1 = b1 := eq_of_beq (h.2)
    rw [e0, e1]
  | .bptr a0 a1, b, h => by
    unfold AV.beq at h
    split at h <;> first | (cases h; done) | skip
    rename_i b0 b1
    simp only [Bool.and_eq_true] at h
    have e0 : a0 = b0 := eq_of_beq (h.1)
    have e1 : a1 = b1 := eq_of_beq (h.2)
    rw [e0, e1]
  | .bself a0 a1, b, h => by
    unfold AV.beq at h
    split at h <;> first | (cases h; done) | skip
    rename_i b0 b1
    simp only [Bool.and_eq_true] at h
    have e0 : a0 = b0 := eq_of_beq (h.1)
    have e1 : a1 = b1 := eq_of_beq (h.2)
    rw [e0, e1]
  | .nilfn , b, h => by
    unfold AV.beq at h
    split at h <;> first | (cases h; done) | skip
    rfl
  | .fn a0 a1 a2, b, h => by
    unfold AV.beq at h
    split at h <;> first | (cases h; done) | skip
    rename_i b0 b1 b2
    simp only [Bool.and_eq_true] at h
    have e0 : a0 = b0 := eq_of_beq (h.1.1)
    have e1 : a1 = b1 := AV.beqs_eq a1 b1 (h.1.2)
    have e2 : a2 = b2 := AV.beqs_eq a2 b2 (h.2)
    rw [e0, e1, e2]
  | .nili , b, h => by
    unfold AV.beq at h
    split at h <;> first | (cases h; done) | skip
    rfl
  | .iface a0 a1, b, h => by
    unfold AV.beq at h
    split at h <;> first | (cases h; done) | skip
    rename_i b0 b1
    simp only [Bool.and_eq_true] at h
    have e0 : a0 = b0 := eq_of_beq (h.1)
    have e1 : a1 = b1 := AV.beq_eq a1 b1 (h.2)
    rw [e0, e1]
  | .agg a0, b, h => by
    unfold AV.beq at h
    split at h <;> first | (cases h; done) | skip
    rename_i b0
    have e0 : a0 = b0 := AV.beqs_eq a0 b0 (h)
    rw [e0]
  | .tup a0, b, h => by
    unfold AV.beq at h
    split at h <;> first | (cases h; done) | skip
    rename_i b0
    have e0 : a0 = b0 := AV.beqs_eq a0 b0 (h)
    rw [e0]
theorem AV.beqs_eq : ∀ (a b : List AV), AV.beqs a b = true → a = b
  | [], b, h => by
    cases b with
    | nil => rfl
    | cons y ys => unfold AV.beqs at h; cases h
  | x :: xs, b, h => by
    cases b with
    | nil => unfold AV.beqs at h; cases h
    | cons y ys =>
      unfold AV.beqs at h
      simp only [Bool.and_eq_true] at h
      rw [AV.beq_eq x y h.1, AV.beqs_eq xs ys h.2]
end
end Go.Ab

