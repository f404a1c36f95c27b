/- The rest of a row of bits: plain laws. No program in sight. -/
namespace Go.Proofs.Ytojgdejofpafkaa

def poly : BitVec 32 := 0x04C11DB7#32
def topB : BitVec 32 := BitVec.twoPow 32 31

def onB (r : BitVec 32) : BitVec 32 := (r <<< 1) ^^^ (if r.getLsbD 31 then poly else 0#32)
def offB (r : BitVec 32) : BitVec 32 := if r.getLsbD 0 then ((r ^^^ poly) >>> 1) ||| topB else r >>> 1

theorem xor_self_right (a b : BitVec 32) : a ^^^ b ^^^ b = a := by rw [BitVec.xor_assoc, BitVec.xor_self, BitVec.xor_zero]

theorem poly0 : poly.getLsbD 0 = true := by decide

theorem off_on (r : BitVec 32) : offB (onB r) = r := by
  unfold offB onB
  by_cases h : r.getLsbD 31
  · rw [if_pos h]
    have e : ((r <<< 1) ^^^ poly).getLsbD 0 = true := by
      rw [BitVec.getLsbD_xor, poly0]
      simp
    rw [if_pos e, xor_self_right]
    refine BitVec.eq_of_getLsbD_eq fun i hi => ?_
    simp only [topB, BitVec.getLsbD_or, BitVec.getLsbD_ushiftRight, BitVec.getLsbD_shiftLeft, BitVec.getLsbD_twoPow]
    by_cases hi31 : i = 31
    · subst hi31
      simp [h]
    · have h1 : 1 + i < 32 := by omega
      have h2 : ¬ 31 = i := by omega
      simp [h1, h2]
  · rw [if_neg h, BitVec.xor_zero]
    have e : ¬ (r <<< 1).getLsbD 0 = true := by simp
    rw [if_neg e]
    refine BitVec.eq_of_getLsbD_eq fun i hi => ?_
    simp only [BitVec.getLsbD_ushiftRight, BitVec.getLsbD_shiftLeft]
    by_cases hi31 : i = 31
    · subst hi31
      simpa using h
    · have h1 : 1 + i < 32 := by omega
      simp [h1]

theorem on_xor (a b : BitVec 32) : onB (a ^^^ b) = onB a ^^^ onB b := by
  unfold onB
  rw [BitVec.getLsbD_xor, BitVec.shiftLeft_xor_distrib]
  cases a.getLsbD 31 <;> cases b.getLsbD 31 <;> simp
  · rw [BitVec.xor_assoc]
  · rw [BitVec.xor_assoc, BitVec.xor_comm (b <<< 1) poly, BitVec.xor_assoc]
  · rw [BitVec.xor_assoc, BitVec.xor_comm poly, xor_self_right]

theorem on_off (r : BitVec 32) : onB (offB r) = r := by
  unfold onB offB
  by_cases h : r.getLsbD 0
  · rw [if_pos h]
    have e : (((r ^^^ poly) >>> 1) ||| topB).getLsbD 31 = true := by
      rw [BitVec.getLsbD_or]
      have : topB.getLsbD 31 = true := by decide
      rw [this]
      simp
    rw [if_pos e]
    have e2 : (((r ^^^ poly) >>> 1) ||| topB) <<< 1 = r ^^^ poly := by
      refine BitVec.eq_of_getLsbD_eq fun i hi => ?_
      simp only [topB, BitVec.getLsbD_or, BitVec.getLsbD_ushiftRight, BitVec.getLsbD_shiftLeft, BitVec.getLsbD_twoPow]
      by_cases hi0 : i = 0
      · subst hi0
        have e0 : (r ^^^ poly).getLsbD 0 = false := by rw [BitVec.getLsbD_xor, h, poly0]; rfl
        rw [e0]
        simp
      · have h1 : 1 + (i - 1) = i := by omega
        have h2 : ¬ 31 = i - 1 := by omega
        simp [h1, h2, hi]
        omega
    rw [e2, xor_self_right]
  · rw [if_neg h]
    have e : ¬ (r >>> 1).getLsbD 31 = true := by simp
    rw [if_neg e, BitVec.xor_zero]
    refine BitVec.eq_of_getLsbD_eq fun i hi => ?_
    simp only [BitVec.getLsbD_ushiftRight, BitVec.getLsbD_shiftLeft]
    by_cases hi0 : i = 0
    · subst hi0
      simpa using h
    · have h1 : 1 + (i - 1) = i := by omega
      simp [h1, hi]
      omega
end Go.Proofs.Ytojgdejofpafkaa
