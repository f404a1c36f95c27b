/- What Fix makes: plain laws. No program in sight. -/
import Derived.Test.YtojgdejofpafkaaCrc6
namespace Go.Proofs.Ytojgdejofpafkaa

theorem not_inj (a b : BitVec 32) : ~~~ a = b ↔ a = ~~~ b := by
  constructor
  · intro h; rw [← h, BitVec.not_not]
  · intro h; rw [h, BitVec.not_not]

theorem sum_four (xs : List UInt8) (at_ : Nat) (want : BitVec 32) (a b c d : UInt8) :
    sumB (xs.take at_ ++ ([a, b, c, d] ++ xs.drop (at_ + 4))) = want ↔ fourB a b c d = holeB xs at_ want := by
  unfold sumB holeB
  rw [not_inj, behindB_append]
  exact fix_iff _ _ _ _ _ _ _

theorem fixB_sum (xs : List UInt8) (at_ : Nat) (want : BitVec 32) : sumB (fixB xs at_ want) = want :=
  (sum_four xs at_ want _ _ _ _).2 (four_bytes _)

theorem fixB_len (xs : List UInt8) (at_ : Nat) (want : BitVec 32) (h : at_ + 4 ≤ xs.length) : (fixB xs at_ want).length = xs.length := by
  unfold fixB bytesB
  simp
  omega

theorem fixB_take (xs : List UInt8) (at_ : Nat) (want : BitVec 32) (h : at_ + 4 ≤ xs.length) : (fixB xs at_ want).take at_ = xs.take at_ := by
  unfold fixB
  rw [List.take_append_of_le_length (by simp; omega), List.take_of_length_le (by simp; omega)]

theorem fixB_drop (xs : List UInt8) (at_ : Nat) (want : BitVec 32) (h : at_ + 4 ≤ xs.length) : (fixB xs at_ want).drop (at_ + 4) = xs.drop (at_ + 4) := by
  unfold fixB
  have h1 : (xs.take at_).length = at_ := by simp; omega
  have h2 : (bytesB (holeB xs at_ want)).length = 4 := rfl
  rw [← List.append_assoc]
  have h3 : (xs.take at_ ++ bytesB (holeB xs at_ want)).length = at_ + 4 := by rw [List.length_append, h1, h2]
  exact List.drop_left' h3

/-- A row, by its four bytes. -/
theorem split_four (xs : List UInt8) (at_ : Nat) (h : at_ + 4 ≤ xs.length) : ∃ a b c d, xs = xs.take at_ ++ ([a, b, c, d] ++ xs.drop (at_ + 4)) := by
  have e : xs.drop at_ = xs[at_] :: xs[at_ + 1] :: xs[at_ + 2] :: xs[at_ + 3] :: xs.drop (at_ + 4) := by
    rw [List.drop_eq_getElem_cons (by omega), List.drop_eq_getElem_cons (i := at_ + 1) (by omega), List.drop_eq_getElem_cons (i := at_ + 1 + 1) (by omega), List.drop_eq_getElem_cons (i := at_ + 1 + 1 + 1) (by omega)]
  refine ⟨xs[at_], xs[at_ + 1], xs[at_ + 2], xs[at_ + 3], ?_⟩
  conv => lhs; rw [← List.take_append_drop at_ xs]
  rw [e]
  rfl

/-- Any other four bytes, another Sum. -/
theorem fix_other (xs : List UInt8) (at_ : Nat) (want : BitVec 32) (a b c d : UInt8) :
    sumB (xs.take at_ ++ ([a, b, c, d] ++ xs.drop (at_ + 4))) = want ↔ xs.take at_ ++ ([a, b, c, d] ++ xs.drop (at_ + 4)) = fixB xs at_ want := by
  rw [sum_four]
  unfold fixB
  constructor
  · intro h
    rw [← h, bytes_four]
  · intro h
    have h2 := List.append_cancel_left h
    have h3 := List.append_cancel_right h2
    rw [← four_bytes (holeB xs at_ want)]
    unfold bytesB at h3
    injection h3 with e1 h3
    injection h3 with e2 h3
    injection h3 with e3 h3
    injection h3 with e4 h3
    rw [e1, e2, e3, e4]

/-- Fixed to the Sum of before, they are what they were. -/
theorem fix_again (xs : List UInt8) (at_ : Nat) (want : BitVec 32) (h : at_ + 4 ≤ xs.length) : fixB (fixB xs at_ want) at_ (sumB xs) = xs := by
  obtain ⟨a, b, c, d, e⟩ := split_four xs at_ h
  have ht := fixB_take xs at_ want h
  have hd := fixB_drop xs at_ want h
  have := (fix_other (fixB xs at_ want) at_ (sumB xs) a b c d).1 (by rw [ht, hd, ← e])
  rw [ht, hd, ← e] at this
  exact this.symm
end Go.Proofs.Ytojgdejofpafkaa
