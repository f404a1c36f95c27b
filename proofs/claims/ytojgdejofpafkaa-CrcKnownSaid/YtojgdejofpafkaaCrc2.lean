/- The rest behind bytes, and ahead of them: plain laws. No program in sight. -/
import Derived.Test.YtojgdejofpafkaaCrc1
namespace Go.Proofs.Ytojgdejofpafkaa

def on8 (r : BitVec 32) : BitVec 32 := onB (onB (onB (onB (onB (onB (onB (onB r)))))))
def off8 (r : BitVec 32) : BitVec 32 := offB (offB (offB (offB (offB (offB (offB (offB r)))))))

theorem off8_on8 (r : BitVec 32) : off8 (on8 r) = r := by simp only [off8, on8, off_on]
theorem on8_off8 (r : BitVec 32) : on8 (off8 r) = r := by simp only [off8, on8, on_off]
theorem on8_xor (a b : BitVec 32) : on8 (a ^^^ b) = on8 a ^^^ on8 b := by simp only [on8, on_xor]

/-- A byte, at the head of a rest. -/
def headB (c : UInt8) : BitVec 32 := BitVec.ofNat 32 c.toNat <<< 24

def stepB (r : BitVec 32) (c : UInt8) : BitVec 32 := on8 (r ^^^ headB c)
def behindB (r : BitVec 32) (l : List UInt8) : BitVec 32 := l.foldl stepB r
def aheadB (r : BitVec 32) (l : List UInt8) : BitVec 32 := l.foldr (fun c r => off8 r ^^^ headB c) r
def sumB (l : List UInt8) : BitVec 32 := ~~~ behindB (~~~ 0#32) l

theorem behindB_append (r : BitVec 32) (l m : List UInt8) : behindB r (l ++ m) = behindB (behindB r l) m := List.foldl_append
theorem aheadB_append (r : BitVec 32) (l m : List UInt8) : aheadB r (l ++ m) = aheadB (aheadB r m) l := List.foldr_append

theorem ahead_behind (l : List UInt8) : ∀ r, aheadB (behindB r l) l = r := by
  induction l with
  | nil => exact fun _ => rfl
  | cons c l ih =>
    intro r
    show off8 (aheadB (behindB (stepB r c) l) l) ^^^ headB c = r
    rw [ih, stepB, off8_on8, xor_self_right]

theorem behind_ahead (l : List UInt8) : ∀ r, behindB (aheadB r l) l = r := by
  induction l with
  | nil => exact fun _ => rfl
  | cons c l ih =>
    intro r
    show behindB (stepB (off8 (aheadB r l) ^^^ headB c) c) l = r
    rw [stepB, xor_self_right, on8_off8, ih]

theorem headB_xor (c d : UInt8) : headB (c ^^^ d) = headB c ^^^ headB d := by
  unfold headB
  rw [← BitVec.shiftLeft_xor_distrib]
  congr 1
  rw [UInt8.toNat_xor]
  exact BitVec.ofNat_xor

theorem xor_four (a b x y : BitVec 32) : (a ^^^ b) ^^^ (x ^^^ y) = (a ^^^ x) ^^^ (b ^^^ y) := by ac_rfl

theorem behind_xor : ∀ (l m : List UInt8) (a b : BitVec 32), l.length = m.length → behindB (a ^^^ b) (List.zipWith (· ^^^ ·) l m) = behindB a l ^^^ behindB b m := by
  intro l
  induction l with
  | nil =>
    intro m a b h
    cases m with
    | nil => rfl
    | cons _ _ => simp at h
  | cons c l ih =>
    intro m a b h
    cases m with
    | nil => simp at h
    | cons d m =>
      show behindB (stepB (a ^^^ b) (c ^^^ d)) (List.zipWith (· ^^^ ·) l m) = behindB (stepB a c) l ^^^ behindB (stepB b d) m
      rw [← ih m _ _ (by simpa using h)]
      refine congrArg (fun x => behindB x (List.zipWith (· ^^^ ·) l m)) ?_
      unfold stepB
      rw [headB_xor, ← on8_xor]
      rw [xor_four a b]

theorem on8_24 : ∀ c : Fin 256, on8 (BitVec.ofNat 32 c.val <<< 16) = BitVec.ofNat 32 c.val <<< 24 := by decide +kernel
theorem on8_16 : ∀ c : Fin 256, on8 (BitVec.ofNat 32 c.val <<< 8) = BitVec.ofNat 32 c.val <<< 16 := by decide +kernel
theorem on8_8 : ∀ c : Fin 256, on8 (BitVec.ofNat 32 c.val) = BitVec.ofNat 32 c.val <<< 8 := by decide +kernel

def on32 (r : BitVec 32) : BitVec 32 := on8 (on8 (on8 (on8 r)))
def off32 (r : BitVec 32) : BitVec 32 := off8 (off8 (off8 (off8 r)))
theorem off32_on32 (r : BitVec 32) : off32 (on32 r) = r := by simp only [off32, on32, off8_on8]
theorem on32_off32 (r : BitVec 32) : on32 (off32 r) = r := by simp only [off32, on32, on8_off8]
theorem on32_xor (a b : BitVec 32) : on32 (a ^^^ b) = on32 a ^^^ on32 b := by simp only [on32, on8_xor]

/-- Four bytes as a number. -/
def fourB (a b c d : UInt8) : BitVec 32 := BitVec.ofNat 32 a.toNat <<< 24 ^^^ (BitVec.ofNat 32 b.toNat <<< 16 ^^^ (BitVec.ofNat 32 c.toNat <<< 8 ^^^ BitVec.ofNat 32 d.toNat))

theorem behind_four (r : BitVec 32) (a b c d : UInt8) : behindB r [a, b, c, d] = on32 (r ^^^ fourB a b c d) := by
  have b1 := on8_24 ⟨b.toNat, b.toNat_lt⟩
  have c1 := on8_24 ⟨c.toNat, c.toNat_lt⟩
  have c2 := on8_16 ⟨c.toNat, c.toNat_lt⟩
  have d1 := on8_24 ⟨d.toNat, d.toNat_lt⟩
  have d2 := on8_16 ⟨d.toNat, d.toNat_lt⟩
  have d3 := on8_8 ⟨d.toNat, d.toNat_lt⟩
  show on8 (on8 (on8 (on8 (r ^^^ headB a) ^^^ headB b) ^^^ headB c) ^^^ headB d) = _
  unfold on32 headB fourB
  dsimp only at b1 c1 c2 d1 d2 d3
  simp only [on8_xor, d3, d2, d1, c2, c1, b1]
  generalize on8 (on8 (on8 (on8 r))) = x0
  generalize on8 (on8 (on8 (on8 (BitVec.ofNat 32 a.toNat <<< 24)))) = x1
  generalize on8 (on8 (on8 (BitVec.ofNat 32 b.toNat <<< 24))) = x2
  generalize on8 (on8 (BitVec.ofNat 32 c.toNat <<< 24)) = x3
  generalize on8 (BitVec.ofNat 32 d.toNat <<< 24) = x4
  ac_rfl

theorem behind_inj (l : List UInt8) {r s : BitVec 32} (h : behindB r l = behindB s l) : r = s := by
  rw [← ahead_behind l r, h, ahead_behind]

/-- THE FIX: with these four bytes the rest is the wanted one, and with no others. -/
theorem fix_iff (p : BitVec 32) (rest : List UInt8) (want : BitVec 32) (a b c d : UInt8) :
    behindB p ([a, b, c, d] ++ rest) = want ↔ fourB a b c d = p ^^^ aheadB want ([0, 0, 0, 0] ++ rest) := by
  have h0 : aheadB want ([0, 0, 0, 0] ++ rest) = off32 (aheadB want rest) := by
    rw [aheadB_append]
    show off8 (off8 (off8 (off8 (aheadB want rest) ^^^ headB 0) ^^^ headB 0) ^^^ headB 0) ^^^ headB 0 = _
    have : headB 0 = 0#32 := by decide
    rw [this]
    simp only [BitVec.xor_zero, off32]
  rw [h0, behindB_append, behind_four]
  constructor
  · intro h
    rw [← h, ahead_behind, off32_on32, ← BitVec.xor_assoc, BitVec.xor_self, BitVec.zero_xor]
  · intro h
    rw [h, ← BitVec.xor_assoc, BitVec.xor_self, BitVec.zero_xor, on32_off32, behind_ahead]
end Go.Proofs.Ytojgdejofpafkaa
