/- Four bytes and a number: plain laws. No program in sight. -/
import Derived.Test.YtojgdejofpafkaaCrc2
namespace Go.Proofs.Ytojgdejofpafkaa

def byteB (x : BitVec 32) (i : Nat) : UInt8 := UInt8.ofNat (x >>> (24 - 8 * i)).toNat
def bytesB (x : BitVec 32) : List UInt8 := [byteB x 0, byteB x 1, byteB x 2, byteB x 3]

theorem byteB_bit (x : BitVec 32) (i k : Nat) : (BitVec.ofNat 32 (byteB x i).toNat).getLsbD k = (decide (k < 8) && x.getLsbD (24 - 8 * i + k)) := by
  unfold byteB
  rw [UInt8.toNat_ofNat', BitVec.getLsbD_ofNat, Nat.testBit_mod_two_pow, BitVec.testBit_toNat, BitVec.getLsbD_ushiftRight]
  by_cases h : k < 8
  · have : k < 32 := by omega
    simp [h, this]
  · simp [h]

theorem four_bytes (x : BitVec 32) : fourB (byteB x 0) (byteB x 1) (byteB x 2) (byteB x 3) = x := by
  refine BitVec.eq_of_getLsbD_eq fun k hk => ?_
  unfold fourB
  simp only [BitVec.getLsbD_xor, BitVec.getLsbD_shiftLeft, byteB_bit]
  by_cases h1 : k < 8
  · have a1 : k < 16 := by omega
    have a2 : k < 24 := by omega
    simp [h1, a1, a2]
  · by_cases h2 : k < 16
    · have a2 : k < 24 := by omega
      have a3 : k - 8 < 8 := by omega
      have e : 8 + (k - 8) = k := by omega
      simp [h1, h2, a2, a3, hk, e]
    · by_cases h3 : k < 24
      · have a3 : ¬ k - 8 < 8 := by omega
        have a4 : k - 16 < 8 := by omega
        have e : 16 + (k - 16) = k := by omega
        simp [h1, h2, h3, a3, a4, hk, e]
      · have a3 : ¬ k - 8 < 8 := by omega
        have a4 : ¬ k - 16 < 8 := by omega
        have a5 : k - 24 < 8 := by omega
        have e : 24 + (k - 24) = k := by omega
        simp [h1, h2, h3, a3, a4, a5, hk, e]

theorem u8_ext {a b : UInt8} (h : ∀ k, k < 8 → a.toNat.testBit k = b.toNat.testBit k) : a = b := by
  refine UInt8.toNat_inj.1 (Nat.eq_of_testBit_eq fun k => ?_)
  by_cases hk : k < 8
  · exact h k hk
  · have l : ∀ c : UInt8, c.toNat.testBit k = false := fun c => Nat.testBit_lt_two_pow (Nat.lt_of_lt_of_le c.toNat_lt (Nat.pow_le_pow_right (by decide) (by omega)))
    rw [l, l]

theorem u8_bit (c : UInt8) (k : Nat) (hk : k < 32) : (BitVec.ofNat 32 c.toNat).getLsbD k = c.toNat.testBit k := by
  rw [BitVec.getLsbD_ofNat]
  simp [hk]

theorem u8_high (c : UInt8) (k : Nat) (hk : ¬ k < 8) : c.toNat.testBit k = false :=
  Nat.testBit_lt_two_pow (Nat.lt_of_lt_of_le c.toNat_lt (Nat.pow_le_pow_right (by decide) (by omega)))

theorem byte_testBit (x : BitVec 32) (i k : Nat) (hk : k < 8) : (byteB x i).toNat.testBit k = x.getLsbD (24 - 8 * i + k) := by
  rw [← u8_bit _ _ (by omega), byteB_bit]
  simp [hk]

theorem bytes_four (a b c d : UInt8) : bytesB (fourB a b c d) = [a, b, c, d] := by
  have key : ∀ i k, i < 4 → k < 8 → (fourB a b c d).getLsbD (24 - 8 * i + k) = (match i with | 0 => a | 1 => b | 2 => c | _ => d).toNat.testBit k := by
    intro i k hi hk
    unfold fourB
    simp only [BitVec.getLsbD_xor, BitVec.getLsbD_shiftLeft]
    have hcases : i = 0 ∨ i = 1 ∨ i = 2 ∨ i = 3 := by omega
    rcases hcases with rfl | rfl | rfl | rfl
    · have e0 : 24 - 8 * 0 + k = 24 + k := by omega
      have e1 : 24 + k - 24 = k := by omega
      have e2 : 24 + k - 16 = 8 + k := by omega
      have e3 : 24 + k - 8 = 16 + k := by omega
      have l : 24 + k < 32 := by omega
      rw [e0, e1, e2, e3, u8_bit a _ (by omega), u8_bit b _ (by omega), u8_bit c _ (by omega), u8_bit d _ (by omega), u8_high b (8 + k) (by omega), u8_high c (16 + k) (by omega), u8_high d (24 + k) (by omega)]
      simp [l]
    · have e0 : 24 - 8 * 1 + k = 16 + k := by omega
      have e2 : 16 + k - 16 = k := by omega
      have e3 : 16 + k - 8 = 8 + k := by omega
      have l : 16 + k < 24 := by omega
      have l2 : 16 + k < 32 := by omega
      rw [e0, e2, e3, u8_bit b _ (by omega), u8_bit c _ (by omega), u8_bit d _ (by omega), u8_high c (8 + k) (by omega), u8_high d (16 + k) (by omega)]
      simp [l, l2]
    · have e0 : 24 - 8 * 2 + k = 8 + k := by omega
      have e3 : 8 + k - 8 = k := by omega
      have l : 8 + k < 16 := by omega
      have l1 : 8 + k < 24 := by omega
      have l2 : 8 + k < 32 := by omega
      rw [e0, e3, u8_bit c _ (by omega), u8_bit d _ (by omega), u8_high d (8 + k) (by omega)]
      simp [l, l1, l2]
    · have e0 : 24 - 8 * 3 + k = k := by omega
      have l : k < 16 := by omega
      have l1 : k < 24 := by omega
      rw [e0, u8_bit d _ (by omega)]
      simp [hk, l, l1]
  unfold bytesB
  have h0 : byteB (fourB a b c d) 0 = a := u8_ext fun k hk => by rw [byte_testBit _ _ _ hk]; exact key 0 k (by omega) hk
  have h1 : byteB (fourB a b c d) 1 = b := u8_ext fun k hk => by rw [byte_testBit _ _ _ hk]; exact key 1 k (by omega) hk
  have h2 : byteB (fourB a b c d) 2 = c := u8_ext fun k hk => by rw [byte_testBit _ _ _ hk]; exact key 2 k (by omega) hk
  have h3 : byteB (fourB a b c d) 3 = d := u8_ext fun k hk => by rw [byte_testBit _ _ _ hk]; exact key 3 k (by omega) hk
  rw [h0, h1, h2, h3]
end Go.Proofs.Ytojgdejofpafkaa
