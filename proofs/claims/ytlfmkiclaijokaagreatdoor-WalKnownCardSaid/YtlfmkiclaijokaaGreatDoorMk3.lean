/- The bytes of a number, and the number of bytes: plain Lean, no program in sight. The rest of a row of bits: plain laws. No program in sight. The rest behind bytes, and ahead of them: plain laws. No program in sight. Disks, as rows of files by their names: plain laws. No program in sight. A disk's calls: plain laws. No program in sight. What is framed, and rows of records: plain laws. No program in sight. A log over a disk: what its calls do, and what stays: plain laws. No program in sight. What is framed, read step by step: plain laws. No program in sight. -/

namespace Go.Proofs.YtlfmkiclaijokaaGreatDoor

/-- The k bytes of n, the highest first. -/
def be : Nat → Nat → List UInt8
  | 0, _ => []
  | k + 1, n => be k (n / 256) ++ [UInt8.ofNat n]

/-- The number of bytes, the highest first. -/
def num (l : List UInt8) : Nat := l.foldl (fun a c => a * 256 + c.toNat) 0

@[simp] theorem be_length (k n : Nat) : (be k n).length = k := by
  induction k generalizing n with
  | zero => rfl
  | succ k ih => simp [be, ih]

theorem be_add (j k n : Nat) : be (j + k) n = be j (n / 256 ^ k) ++ be k n := by
  induction k generalizing n with
  | zero => simp [be]
  | succ k ih =>
    show be (j + k) (n / 256) ++ [UInt8.ofNat n] = _
    rw [ih, be, List.append_assoc, Nat.div_div_eq_div_mul, Nat.pow_succ, Nat.mul_comm 256]

theorem be_mod (k n : Nat) : be k (n % 256 ^ k) = be k n := by
  induction k generalizing n with
  | zero => rfl
  | succ k ih =>
    have h1 : n % 256 ^ (k + 1) / 256 = n / 256 % 256 ^ k := by
      rw [Nat.pow_succ, Nat.mul_comm, Nat.mod_mul_right_div_self]
    have h2 : n % 256 ^ (k + 1) % 256 = n % 256 := by
      rw [Nat.pow_succ, Nat.mul_comm, Nat.mod_mul_right_mod]
    rw [be, be, h1, ih]
    congr 2
    apply UInt8.toNat_inj.1
    simp [h2]

/-- Put by halves. -/
theorem be_halves (k n : Nat) : be (k + k) n = be k (n / 256 ^ k) ++ be k (n % 256 ^ k) := by rw [be_add, be_mod]

theorem num_snoc (l : List UInt8) (c : UInt8) : num (l ++ [c]) = num l * 256 + c.toNat := by simp [num]

theorem num_append (l m : List UInt8) : num (l ++ m) = num l * 256 ^ m.length + num m := by
  have key : ∀ (m : List UInt8) (a : Nat), m.foldl (fun a c => a * 256 + c.toNat) a = a * 256 ^ m.length + num m := by
    intro m
    induction m with
    | nil => intro a; simp [num]
    | cons c m ih =>
      intro a
      have h := ih (0 * 256 + c.toNat)
      rw [List.foldl_cons, ih]
      show _ = _ + List.foldl (fun a c => a * 256 + c.toNat) 0 (c :: m)
      rw [List.foldl_cons, h]
      simp only [List.length_cons, Nat.pow_succ, Nat.add_mul, Nat.zero_mul, Nat.zero_add, Nat.mul_assoc, Nat.mul_comm 256]
      omega
  show List.foldl _ 0 (l ++ m) = _
  rw [List.foldl_append, key]
  rfl

theorem snoc_ind {α : Type} {p : List α → Prop} (h0 : p []) (h1 : ∀ l c, p l → p (l ++ [c])) (l : List α) : p l := by
  have : ∀ n, ∀ l : List α, l.length = n → p l := by
    intro n
    induction n with
    | zero => intro l hl; rw [List.eq_nil_of_length_eq_zero hl]; exact h0
    | succ n ih =>
      intro l hl
      have hne : l ≠ [] := by intro e; subst e; simp at hl
      rw [← List.dropLast_concat_getLast hne]
      exact h1 _ _ (ih _ (by simp [hl]))
  exact this _ l rfl

theorem num_lt (l : List UInt8) : num l < 256 ^ l.length := by
  refine snoc_ind (p := fun l => num l < 256 ^ l.length) (by simp [num]) (fun l c ih => ?_) l
  rw [num_snoc, List.length_append, List.length_singleton, Nat.pow_succ]
  have := c.toNat_lt
  omega

theorem num_be (k n : Nat) : num (be k n) = n % 256 ^ k := by
  induction k generalizing n with
  | zero => simp [be, num, Nat.mod_one]
  | succ k ih =>
    rw [be, num_snoc, ih, Nat.pow_succ, Nat.mul_comm (256 ^ k) 256, Nat.mod_mul]
    simp
    omega

theorem be_num (l : List UInt8) : be l.length (num l) = l := by
  refine snoc_ind (p := fun l => be l.length (num l) = l) rfl (fun l c ih => ?_) l
  have hc := c.toNat_lt
  rw [List.length_append, List.length_singleton, be, num_snoc]
  have h1 : (num l * 256 + c.toNat) / 256 = num l := by omega
  rw [h1, ih]
  congr 2
  apply UInt8.toNat_inj.1
  simp

end Go.Proofs.YtlfmkiclaijokaaGreatDoor

namespace Go.Proofs.YtlfmkiclaijokaaGreatDoor

def poly : BitVec 32 := 0x04C11DB7#32
def topB : BitVec 32 := BitVec.twoPow 32 31

def onB (r : BitVec 32) : BitVec 32 := (r <<< 1) ^^^ (if r.getLsbD 31 then poly else 0#32)
def offB (r : BitVec 32) : BitVec 32 := if r.getLsbD 0 then ((r ^^^ poly) >>> 1) ||| topB else r >>> 1

theorem xor_self_right (a b : BitVec 32) : a ^^^ b ^^^ b = a := by rw [BitVec.xor_assoc, BitVec.xor_self, BitVec.xor_zero]

theorem poly0 : poly.getLsbD 0 = true := by decide

theorem off_on (r : BitVec 32) : offB (onB r) = r := by
  unfold offB onB
  by_cases h : r.getLsbD 31
  · rw [if_pos h]
    have e : ((r <<< 1) ^^^ poly).getLsbD 0 = true := by
      rw [BitVec.getLsbD_xor, poly0]
      simp
    rw [if_pos e, xor_self_right]
    refine BitVec.eq_of_getLsbD_eq fun i hi => ?_
    simp only [topB, BitVec.getLsbD_or, BitVec.getLsbD_ushiftRight, BitVec.getLsbD_shiftLeft, BitVec.getLsbD_twoPow]
    by_cases hi31 : i = 31
    · subst hi31
      simp [h]
    · have h1 : 1 + i < 32 := by omega
      have h2 : ¬ 31 = i := by omega
      simp [h1, h2]
  · rw [if_neg h, BitVec.xor_zero]
    have e : ¬ (r <<< 1).getLsbD 0 = true := by simp
    rw [if_neg e]
    refine BitVec.eq_of_getLsbD_eq fun i hi => ?_
    simp only [BitVec.getLsbD_ushiftRight, BitVec.getLsbD_shiftLeft]
    by_cases hi31 : i = 31
    · subst hi31
      simpa using h
    · have h1 : 1 + i < 32 := by omega
      simp [h1]

theorem on_xor (a b : BitVec 32) : onB (a ^^^ b) = onB a ^^^ onB b := by
  unfold onB
  rw [BitVec.getLsbD_xor, BitVec.shiftLeft_xor_distrib]
  cases a.getLsbD 31 <;> cases b.getLsbD 31 <;> simp
  · rw [BitVec.xor_assoc]
  · rw [BitVec.xor_assoc, BitVec.xor_comm (b <<< 1) poly, BitVec.xor_assoc]
  · rw [BitVec.xor_assoc, BitVec.xor_comm poly, xor_self_right]

theorem on_off (r : BitVec 32) : onB (offB r) = r := by
  unfold onB offB
  by_cases h : r.getLsbD 0
  · rw [if_pos h]
    have e : (((r ^^^ poly) >>> 1) ||| topB).getLsbD 31 = true := by
      rw [BitVec.getLsbD_or]
      have : topB.getLsbD 31 = true := by decide
      rw [this]
      simp
    rw [if_pos e]
    have e2 : (((r ^^^ poly) >>> 1) ||| topB) <<< 1 = r ^^^ poly := by
      refine BitVec.eq_of_getLsbD_eq fun i hi => ?_
      simp only [topB, BitVec.getLsbD_or, BitVec.getLsbD_ushiftRight, BitVec.getLsbD_shiftLeft, BitVec.getLsbD_twoPow]
      by_cases hi0 : i = 0
      · subst hi0
        have e0 : (r ^^^ poly).getLsbD 0 = false := by rw [BitVec.getLsbD_xor, h, poly0]; rfl
        rw [e0]
        simp
      · have h1 : 1 + (i - 1) = i := by omega
        have h2 : ¬ 31 = i - 1 := by omega
        simp [h1, h2, hi]
        omega
    rw [e2, xor_self_right]
  · rw [if_neg h]
    have e : ¬ (r >>> 1).getLsbD 31 = true := by simp
    rw [if_neg e, BitVec.xor_zero]
    refine BitVec.eq_of_getLsbD_eq fun i hi => ?_
    simp only [BitVec.getLsbD_ushiftRight, BitVec.getLsbD_shiftLeft]
    by_cases hi0 : i = 0
    · subst hi0
      simpa using h
    · have h1 : 1 + (i - 1) = i := by omega
      simp [h1, hi]
      omega
end Go.Proofs.YtlfmkiclaijokaaGreatDoor

namespace Go.Proofs.YtlfmkiclaijokaaGreatDoor

def on8 (r : BitVec 32) : BitVec 32 := onB (onB (onB (onB (onB (onB (onB (onB r)))))))
def off8 (r : BitVec 32) : BitVec 32 := offB (offB (offB (offB (offB (offB (offB (offB r)))))))

theorem off8_on8 (r : BitVec 32) : off8 (on8 r) = r := by simp only [off8, on8, off_on]
theorem on8_off8 (r : BitVec 32) : on8 (off8 r) = r := by simp only [off8, on8, on_off]
theorem on8_xor (a b : BitVec 32) : on8 (a ^^^ b) = on8 a ^^^ on8 b := by simp only [on8, on_xor]

/-- A byte, at the head of a rest. -/
def headB (c : UInt8) : BitVec 32 := BitVec.ofNat 32 c.toNat <<< 24

def stepB (r : BitVec 32) (c : UInt8) : BitVec 32 := on8 (r ^^^ headB c)
def behindB (r : BitVec 32) (l : List UInt8) : BitVec 32 := l.foldl stepB r
def aheadB (r : BitVec 32) (l : List UInt8) : BitVec 32 := l.foldr (fun c r => off8 r ^^^ headB c) r
def sumB (l : List UInt8) : BitVec 32 := ~~~ behindB (~~~ 0#32) l

theorem behindB_append (r : BitVec 32) (l m : List UInt8) : behindB r (l ++ m) = behindB (behindB r l) m := List.foldl_append
theorem aheadB_append (r : BitVec 32) (l m : List UInt8) : aheadB r (l ++ m) = aheadB (aheadB r m) l := List.foldr_append

theorem ahead_behind (l : List UInt8) : ∀ r, aheadB (behindB r l) l = r := by
  induction l with
  | nil => exact fun _ => rfl
  | cons c l ih =>
    intro r
    show off8 (aheadB (behindB (stepB r c) l) l) ^^^ headB c = r
    rw [ih, stepB, off8_on8, xor_self_right]

theorem behind_ahead (l : List UInt8) : ∀ r, behindB (aheadB r l) l = r := by
  induction l with
  | nil => exact fun _ => rfl
  | cons c l ih =>
    intro r
    show behindB (stepB (off8 (aheadB r l) ^^^ headB c) c) l = r
    rw [stepB, xor_self_right, on8_off8, ih]

theorem headB_xor (c d : UInt8) : headB (c ^^^ d) = headB c ^^^ headB d := by
  unfold headB
  rw [← BitVec.shiftLeft_xor_distrib]
  congr 1
  rw [UInt8.toNat_xor]
  exact BitVec.ofNat_xor

theorem xor_four (a b x y : BitVec 32) : (a ^^^ b) ^^^ (x ^^^ y) = (a ^^^ x) ^^^ (b ^^^ y) := by ac_rfl

theorem behind_xor : ∀ (l m : List UInt8) (a b : BitVec 32), l.length = m.length → behindB (a ^^^ b) (List.zipWith (· ^^^ ·) l m) = behindB a l ^^^ behindB b m := by
  intro l
  induction l with
  | nil =>
    intro m a b h
    cases m with
    | nil => rfl
    | cons _ _ => simp at h
  | cons c l ih =>
    intro m a b h
    cases m with
    | nil => simp at h
    | cons d m =>
      show behindB (stepB (a ^^^ b) (c ^^^ d)) (List.zipWith (· ^^^ ·) l m) = behindB (stepB a c) l ^^^ behindB (stepB b d) m
      rw [← ih m _ _ (by simpa using h)]
      refine congrArg (fun x => behindB x (List.zipWith (· ^^^ ·) l m)) ?_
      unfold stepB
      rw [headB_xor, ← on8_xor]
      rw [xor_four a b]

theorem on8_24 : ∀ c : Fin 256, on8 (BitVec.ofNat 32 c.val <<< 16) = BitVec.ofNat 32 c.val <<< 24 := by decide +kernel
theorem on8_16 : ∀ c : Fin 256, on8 (BitVec.ofNat 32 c.val <<< 8) = BitVec.ofNat 32 c.val <<< 16 := by decide +kernel
theorem on8_8 : ∀ c : Fin 256, on8 (BitVec.ofNat 32 c.val) = BitVec.ofNat 32 c.val <<< 8 := by decide +kernel

def on32 (r : BitVec 32) : BitVec 32 := on8 (on8 (on8 (on8 r)))
def off32 (r : BitVec 32) : BitVec 32 := off8 (off8 (off8 (off8 r)))
theorem off32_on32 (r : BitVec 32) : off32 (on32 r) = r := by simp only [off32, on32, off8_on8]
theorem on32_off32 (r : BitVec 32) : on32 (off32 r) = r := by simp only [off32, on32, on8_off8]
theorem on32_xor (a b : BitVec 32) : on32 (a ^^^ b) = on32 a ^^^ on32 b := by simp only [on32, on8_xor]

/-- Four bytes as a number. -/
def fourB (a b c d : UInt8) : BitVec 32 := BitVec.ofNat 32 a.toNat <<< 24 ^^^ (BitVec.ofNat 32 b.toNat <<< 16 ^^^ (BitVec.ofNat 32 c.toNat <<< 8 ^^^ BitVec.ofNat 32 d.toNat))

theorem behind_four (r : BitVec 32) (a b c d : UInt8) : behindB r [a, b, c, d] = on32 (r ^^^ fourB a b c d) := by
  have b1 := on8_24 ⟨b.toNat, b.toNat_lt⟩
  have c1 := on8_24 ⟨c.toNat, c.toNat_lt⟩
  have c2 := on8_16 ⟨c.toNat, c.toNat_lt⟩
  have d1 := on8_24 ⟨d.toNat, d.toNat_lt⟩
  have d2 := on8_16 ⟨d.toNat, d.toNat_lt⟩
  have d3 := on8_8 ⟨d.toNat, d.toNat_lt⟩
  show on8 (on8 (on8 (on8 (r ^^^ headB a) ^^^ headB b) ^^^ headB c) ^^^ headB d) = _
  unfold on32 headB fourB
  dsimp only at b1 c1 c2 d1 d2 d3
  simp only [on8_xor, d3, d2, d1, c2, c1, b1]
  generalize on8 (on8 (on8 (on8 r))) = x0
  generalize on8 (on8 (on8 (on8 (BitVec.ofNat 32 a.toNat <<< 24)))) = x1
  generalize on8 (on8 (on8 (BitVec.ofNat 32 b.toNat <<< 24))) = x2
  generalize on8 (on8 (BitVec.ofNat 32 c.toNat <<< 24)) = x3
  generalize on8 (BitVec.ofNat 32 d.toNat <<< 24) = x4
  ac_rfl

theorem behind_inj (l : List UInt8) {r s : BitVec 32} (h : behindB r l = behindB s l) : r = s := by
  rw [← ahead_behind l r, h, ahead_behind]

/-- THE FIX: with these four bytes the rest is the wanted one, and with no others. -/
theorem fix_iff (p : BitVec 32) (rest : List UInt8) (want : BitVec 32) (a b c d : UInt8) :
    behindB p ([a, b, c, d] ++ rest) = want ↔ fourB a b c d = p ^^^ aheadB want ([0, 0, 0, 0] ++ rest) := by
  have h0 : aheadB want ([0, 0, 0, 0] ++ rest) = off32 (aheadB want rest) := by
    rw [aheadB_append]
    show off8 (off8 (off8 (off8 (aheadB want rest) ^^^ headB 0) ^^^ headB 0) ^^^ headB 0) ^^^ headB 0 = _
    have : headB 0 = 0#32 := by decide
    rw [this]
    simp only [BitVec.xor_zero, off32]
  rw [h0, behindB_append, behind_four]
  constructor
  · intro h
    rw [← h, ahead_behind, off32_on32, ← BitVec.xor_assoc, BitVec.xor_self, BitVec.zero_xor]
  · intro h
    rw [h, ← BitVec.xor_assoc, BitVec.xor_self, BitVec.zero_xor, on32_off32, behind_ahead]
end Go.Proofs.YtlfmkiclaijokaaGreatDoor

namespace Go.Proofs.YtlfmkiclaijokaaGreatDoor

abbrev Bs : Type := List UInt8

/-- Less, as bytes. -/
def ltN : Bs → Bs → Bool
  | _, [] => false
  | [], _ :: _ => true
  | a :: l, b :: m => if a < b then true else if b < a then false else ltN l m

theorem ltN_irrefl : ∀ a, ltN a a = false
  | [] => rfl
  | a :: l => by
    have : ¬ a < a := by simp
    unfold ltN
    rw [if_neg this, if_neg this]
    exact ltN_irrefl l

theorem u8_tri {a b : UInt8} (h1 : ¬ a < b) (h2 : ¬ b < a) : a = b := by
  simp only [UInt8.lt_iff_toNat_lt] at h1 h2
  exact UInt8.toNat_inj.1 (by omega)

theorem ltN_total : ∀ a b, ltN a b = false → ltN b a = false → a = b
  | [], [], _, _ => rfl
  | [], _ :: _, h, _ => by simp [ltN] at h
  | _ :: _, [], _, h => by simp [ltN] at h
  | a :: l, b :: m, h1, h2 => by
    unfold ltN at h1 h2
    by_cases c : a < b
    · rw [if_pos c] at h1; cases h1
    · by_cases d : b < a
      · rw [if_pos d] at h2; cases h2
      · rw [if_neg c, if_neg d] at h1
        rw [if_neg d, if_neg c] at h2
        rw [u8_tri c d, ltN_total l m h1 h2]

theorem ltN_trans : ∀ a b c, ltN a b = true → ltN b c = true → ltN a c = true
  | a, b, [], _, h => by cases b <;> simp [ltN] at h
  | a, [], _ :: _, h, _ => by cases a <;> simp [ltN] at h
  | [], _ :: _, _ :: _, _, _ => rfl
  | a :: l, b :: m, c :: n, h1, h2 => by
    unfold ltN at h1 h2 ⊢
    simp only [UInt8.lt_iff_toNat_lt] at h1 h2 ⊢
    by_cases x : a.toNat < c.toNat
    · rw [if_pos x]
    · rw [if_neg x]
      by_cases ab : a.toNat < b.toNat
      · by_cases bc : b.toNat < c.toNat
        · omega
        · rw [if_neg bc] at h2
          by_cases cb : c.toNat < b.toNat
          · rw [if_pos cb] at h2; cases h2
          · omega
      · rw [if_neg ab] at h1
        by_cases ba : b.toNat < a.toNat
        · rw [if_pos ba] at h1; cases h1
        · rw [if_neg ba] at h1
          by_cases bc : b.toNat < c.toNat
          · omega
          · rw [if_neg bc] at h2
            by_cases cb : c.toNat < b.toNat
            · rw [if_pos cb] at h2; cases h2
            · rw [if_neg cb] at h2
              rw [if_neg (by omega)]
              exact ltN_trans l m n h1 h2

theorem ltN_asymm (a b : Bs) (h : ltN a b = true) : ltN b a = false := by
  rcases hb : ltN b a with _ | _
  · rfl
  · have := ltN_trans a b a h hb
    rw [ltN_irrefl] at this
    cases this

structure FileP where
  name : Bs
  dry : Bs
  wet : Bs
  born : Bool
  deriving DecidableEq

def FileP.all (f : FileP) : Bs := f.dry ++ f.wet
def FileP.size (f : FileP) : Nat := f.dry.length + f.wet.length

/-- By their names. -/
def SortedF (fs : List FileP) : Prop := fs.Pairwise fun f g => ltN f.name g.name = true

/-- Where a name stands, or would. -/
def posN (fs : List FileP) (n : Bs) : Nat := (fs.takeWhile fun f => ltN f.name n).length
def getF (fs : List FileP) (n : Bs) : Option FileP := fs.find? fun f => f.name == n
def hasN (fs : List FileP) (n : Bs) : Bool := (getF fs n).isSome

def putF (f : FileP) : List FileP → List FileP
  | [] => [f]
  | g :: fs => if ltN g.name f.name then g :: putF f fs else if g.name = f.name then f :: fs else f :: g :: fs
def delF (n : Bs) (fs : List FileP) : List FileP := fs.filter fun f => f.name != n

theorem posN_cons (g : FileP) (fs : List FileP) (n : Bs) : posN (g :: fs) n = if ltN g.name n then posN fs n + 1 else 0 := by
  unfold posN
  rw [List.takeWhile_cons]
  split <;> simp

theorem posN_le (fs : List FileP) (n : Bs) : posN fs n ≤ fs.length := by
  induction fs with
  | nil => exact Nat.le_refl _
  | cons g fs ih =>
    rw [posN_cons]
    split
    · simpa using ih
    · simp

theorem getF_cons (g : FileP) (fs : List FileP) (n : Bs) : getF (g :: fs) n = if g.name = n then some g else getF fs n := by
  unfold getF
  rw [List.find?_cons]
  by_cases h : g.name = n
  · rw [if_pos h]; simp [h]
  · rw [if_neg h]
    have : (g.name == n) = false := by simpa using h
    rw [this]

/-- Where no name may stand, it does not. -/
theorem getF_none_of_lt (fs : List FileP) (n : Bs) (h : ∀ f ∈ fs, ltN n f.name = true) : getF fs n = none := by
  unfold getF
  rw [List.find?_eq_none]
  intro f hf
  have := h f hf
  simp only [beq_iff_eq]
  intro e
  rw [e, ltN_irrefl] at this
  cases this

/-- THE SEARCH: what stands there is the file, if there is one. -/
theorem get_at (fs : List FileP) (hs : SortedF fs) (n : Bs) : getF fs n = (fs[posN fs n]?).bind fun f => if f.name = n then some f else none := by
  induction fs with
  | nil => rfl
  | cons g fs ih =>
    obtain ⟨h1, h2⟩ := List.pairwise_cons.1 hs
    rw [posN_cons, getF_cons]
    by_cases hl : ltN g.name n = true
    · rw [if_pos hl, List.getElem?_cons_succ, ← ih h2]
      have : g.name ≠ n := fun e => by rw [e, ltN_irrefl] at hl; cases hl
      rw [if_neg this]
    · rw [if_neg hl, List.getElem?_cons_zero, Option.bind_some]
      by_cases e : g.name = n
      · rw [if_pos e, if_pos e]
      · rw [if_neg e, if_neg e]
        refine getF_none_of_lt fs n fun f hf => ?_
        have hgn : ltN n g.name = true := by
          rcases hb : ltN n g.name with _ | _
          · exact absurd (ltN_total _ _ (by simpa using hl) hb) e
          · rfl
        exact ltN_trans _ _ _ hgn (h1 f hf)

theorem put_at (fs : List FileP) (hs : SortedF fs) (f : FileP) : putF f fs = fs.take (posN fs f.name) ++ f :: fs.drop (if hasN fs f.name then posN fs f.name + 1 else posN fs f.name) := by
  induction fs with
  | nil => rfl
  | cons g fs ih =>
    obtain ⟨h1, h2⟩ := List.pairwise_cons.1 hs
    have hh : hasN (g :: fs) f.name = if g.name = f.name then true else hasN fs f.name := by
      unfold hasN
      rw [getF_cons]
      split <;> rfl
    rw [posN_cons, hh]
    unfold putF
    by_cases hl : ltN g.name f.name = true
    · have hne : g.name ≠ f.name := fun e => by rw [e, ltN_irrefl] at hl; cases hl
      rw [if_pos hl, if_pos hl, if_neg hne, ih h2, List.take_succ_cons, List.cons_append]
      congr 2
      split <;> simp
    · rw [if_neg hl, if_neg hl]
      by_cases e : g.name = f.name
      · rw [if_pos e, if_pos e]
        simp
      · rw [if_neg e, if_neg e]
        have hgn : ltN f.name g.name = true := by
          rcases hb : ltN f.name g.name with _ | _
          · exact absurd (ltN_total _ _ (by simpa using hl) hb) e
          · rfl
        have : hasN fs f.name = false := by
          unfold hasN
          rw [getF_none_of_lt fs f.name fun k hk => ltN_trans _ _ _ hgn (h1 k hk)]
          rfl
        rw [this]
        simp

theorem mem_putF {f g : FileP} : ∀ {fs : List FileP}, g ∈ putF f fs → g = f ∨ g ∈ fs
  | [], h => by simp [putF] at h; exact .inl h
  | k :: fs, h => by
    unfold putF at h
    split at h
    · rcases List.mem_cons.1 h with rfl | h
      · exact .inr (List.mem_cons_self)
      · rcases mem_putF h with h | h
        · exact .inl h
        · exact .inr (List.mem_cons_of_mem _ h)
    · split at h
      · rcases List.mem_cons.1 h with rfl | h
        · exact .inl rfl
        · exact .inr (List.mem_cons_of_mem _ h)
      · rcases List.mem_cons.1 h with rfl | h
        · exact .inl rfl
        · exact .inr h

theorem sorted_put (f : FileP) : ∀ (fs : List FileP), SortedF fs → SortedF (putF f fs)
  | [], _ => List.pairwise_singleton _ _
  | g :: fs, hs => by
    obtain ⟨h1, h2⟩ := List.pairwise_cons.1 hs
    unfold putF
    split
    · next hl =>
      refine List.pairwise_cons.2 ⟨fun k hk => ?_, sorted_put f fs h2⟩
      rcases mem_putF hk with rfl | hk
      · exact hl
      · exact h1 k hk
    · next hl =>
      split
      · next e => exact List.pairwise_cons.2 ⟨fun k hk => by rw [← e]; exact h1 k hk, h2⟩
      · next e =>
        have hgn : ltN f.name g.name = true := by
          rcases hb : ltN f.name g.name with _ | _
          · exact absurd (ltN_total _ _ (by simpa using hl) hb) e
          · rfl
        refine List.pairwise_cons.2 ⟨fun k hk => ?_, hs⟩
        rcases List.mem_cons.1 hk with rfl | hk
        · exact hgn
        · exact ltN_trans _ _ _ hgn (h1 k hk)

theorem get_put (f : FileP) (n : Bs) : ∀ (fs : List FileP), getF (putF f fs) n = if f.name = n then some f else getF fs n
  | [] => by
    unfold putF
    rw [getF_cons]
  | g :: fs => by
    unfold putF
    split
    · next hl =>
      rw [getF_cons, get_put f n fs, getF_cons]
      by_cases e : g.name = n
      · rw [if_pos e, if_pos e, if_neg]
        intro e2
        rw [e, e2, ltN_irrefl] at hl
        cases hl
      · rw [if_neg e, if_neg e]
    · split
      · next e =>
        rw [getF_cons, getF_cons]
        by_cases e2 : f.name = n
        · rw [if_pos e2, if_pos e2]
        · rw [if_neg e2, if_neg e2, if_neg (by rw [e]; exact e2)]
      · rw [getF_cons]

theorem sorted_del (n : Bs) (fs : List FileP) (hs : SortedF fs) : SortedF (delF n fs) := List.Pairwise.sublist List.filter_sublist hs

theorem get_del (m n : Bs) : ∀ (fs : List FileP), getF (delF m fs) n = if n = m then none else getF fs n
  | [] => by split <;> rfl
  | g :: fs => by
    have ih := get_del m n fs
    unfold delF at ih ⊢
    rw [List.filter_cons]
    by_cases e : g.name = m
    · have : (g.name != m) = false := by simp [e]
      rw [this]
      simp only [Bool.false_eq_true, if_false]
      rw [ih, getF_cons]
      by_cases e2 : n = m
      · rw [if_pos e2, if_pos e2]
      · rw [if_neg e2, if_neg e2, if_neg]
        rw [e]
        exact fun h => e2 h.symm
    · have : (g.name != m) = true := by simp [e]
      rw [this]
      simp only [if_true]
      rw [getF_cons, ih, getF_cons]
      by_cases e2 : g.name = n
      · rw [if_pos e2, if_pos e2, if_neg]
        rw [← e2]; exact e
      · rw [if_neg e2, if_neg e2]

theorem del_at (fs : List FileP) (hs : SortedF fs) (n : Bs) (hh : hasN fs n = true) : delF n fs = fs.take (posN fs n) ++ fs.drop (posN fs n + 1) := by
  induction fs with
  | nil => cases hh
  | cons g fs ih =>
    obtain ⟨h1, h2⟩ := List.pairwise_cons.1 hs
    unfold delF
    rw [posN_cons, List.filter_cons]
    unfold hasN at hh
    rw [getF_cons] at hh
    by_cases hl : ltN g.name n = true
    · have hne : g.name ≠ n := fun e => by rw [e, ltN_irrefl] at hl; cases hl
      rw [if_neg hne] at hh
      have : (g.name != n) = true := by simp [hne]
      rw [this, if_pos hl]
      simp only [if_true]
      rw [List.take_succ_cons, List.drop_succ_cons, List.cons_append]
      congr 1
      exact ih h2 hh
    · rw [if_neg hl]
      by_cases e : g.name = n
      · have : (g.name != n) = false := by simp [e]
        rw [this]
        simp only [Bool.false_eq_true, if_false, List.take_zero, List.nil_append, Nat.zero_add, List.drop_succ_cons, List.drop_zero]
        refine List.filter_eq_self.2 fun f hf => ?_
        have := h1 f hf
        simp only [bne_iff_ne, ne_eq]
        intro e2
        rw [e, e2, ltN_irrefl] at this
        cases this
      · rw [if_neg e] at hh
        have hgn : ltN n g.name = true := by
          rcases hb : ltN n g.name with _ | _
          · exact absurd (ltN_total _ _ (by simpa using hl) hb) e
          · rfl
        rw [getF_none_of_lt fs n fun k hk => ltN_trans _ _ _ hgn (h1 k hk)] at hh
        cases hh

/-- How many bytes all files have. -/
def usedF (fs : List FileP) : Nat := (fs.map FileP.size).sum

def sizeO : Option FileP → Nat
  | none => 0
  | some f => f.size

theorem used_put (f : FileP) : ∀ (fs : List FileP), SortedF fs → usedF (putF f fs) + sizeO (getF fs f.name) = usedF fs + f.size
  | [], _ => by simp [usedF, putF, getF, sizeO]
  | g :: fs, hs => by
    obtain ⟨h1, h2⟩ := List.pairwise_cons.1 hs
    have ih := used_put f fs h2
    rw [getF_cons]
    unfold putF
    unfold usedF at ih ⊢
    split
    · next hl =>
      have hne : g.name ≠ f.name := fun e => by rw [e, ltN_irrefl] at hl; cases hl
      rw [if_neg hne]
      simp only [List.map_cons, List.sum_cons]
      omega
    · next hl =>
      split
      · next e =>
        simp only [sizeO, List.map_cons, List.sum_cons]
        omega
      · next e =>
        have hgn : ltN f.name g.name = true := by
          rcases hb : ltN f.name g.name with _ | _
          · exact absurd (ltN_total _ _ (by simpa using hl) hb) e
          · rfl
        rw [getF_none_of_lt fs f.name fun k hk => ltN_trans _ _ _ hgn (h1 k hk)]
        simp only [sizeO, List.map_cons, List.sum_cons]
        omega

theorem getF_name {fs : List FileP} {n : Bs} {f : FileP} (h : getF fs n = some f) : f.name = n ∧ f ∈ fs := by
  unfold getF at h
  exact ⟨by simpa using List.find?_some h, List.mem_of_find?_eq_some h⟩

theorem size_le_used {fs : List FileP} {f : FileP} (h : f ∈ fs) : f.size ≤ usedF fs := by
  induction fs with
  | nil => cases h
  | cons g fs ih =>
    unfold usedF at ih ⊢
    simp only [List.map_cons, List.sum_cons]
    rcases List.mem_cons.1 h with rfl | h
    · omega
    · have := ih h
      omega
end Go.Proofs.YtlfmkiclaijokaaGreatDoor

namespace Go.Proofs.YtlfmkiclaijokaaGreatDoor

structure DiskP where
  files : List FileP
  quota : Int
  steps : Int
  set : Int
  off : Bool

def inc64 (n : Int) : Int := (n + 1 + 9223372036854775808) % 18446744073709551616 - 9223372036854775808

def badName (n : Bs) : Bool := n.isEmpty || decide (128 < n.length)

def newD (quota : Int) : DiskP := ⟨[], max 0 quota, 0, -1, false⟩

def barsD (d : DiskP) (ns : List Bs) : Int := if d.off then 40 else if ns.any badName then 2 else 0

def crashD (d : DiskP) : DiskP := { d with off := true, set := -1 }

/-- One step: whether it goes well, and the disk behind it. -/
def stepOk (d : DiskP) : Bool := decide (d.set ≠ 0)
def stepD (d : DiskP) : DiskP := if d.set = 0 then crashD { d with steps := inc64 d.steps } else { d with steps := inc64 d.steps, set := max (-1) (d.set - 1) }

def fileOf (d : DiskP) (n : Bs) : FileP := (getF d.files n).getD ⟨n, [], [], false⟩

def maxDisk : Nat := 8388608

def appE (d : DiskP) (n b : Bs) : Int :=
  if barsD d [n] ≠ 0 then barsD d [n] else if (maxDisk : Int) - (fileOf d n).size < b.length then 3 else if d.quota - usedF d.files < b.length then 41 else 0
def appPut (d : DiskP) (n b : Bs) : DiskP := { d with files := putF { fileOf d n with wet := (fileOf d n).wet ++ b } d.files }
/-- Append: what it answers, and what it leaves. -/
def appendD (d : DiskP) (n b : Bs) : Int × DiskP :=
  if appE d n b ≠ 0 then (appE d n b, d) else (if stepOk (appPut d n b) then 0 else 40, stepD (appPut d n b))

/-- The bytes of a file that are left: all, or the first so many. -/
def driesD (d : DiskP) (src dst : Bs) (left : Bs → Bs × Int) : Int × DiskP :=
  if barsD d [src, dst] ≠ 0 then (barsD d [src, dst], d)
  else match getF d.files src with
    | none => (5, d)
    | some f => if (left f.all).2 ≠ 0 then ((left f.all).2, d)
      else if stepOk d then (0, { stepD d with files := putF ⟨dst, (left f.all).1, [], true⟩ (delF src d.files) }) else (40, stepD d)

def wholeL (b : Bs) : Bs × Int := (b, 0)
def cutL (n : Int) (b : Bs) : Bs × Int := if n < 0 ∨ (b.length : Int) < n then ([], 2) else (b.take n.toNat, 0)

def removeD (d : DiskP) (n : Bs) : Int × DiskP :=
  if barsD d [n] ≠ 0 then (barsD d [n], d)
  else if hasN d.files n then (if stepOk d then (0, { stepD d with files := delF n d.files }) else (40, stepD d)) else (5, d)

def readD (d : DiskP) (n : Bs) : Bs × Int :=
  if barsD d [n] ≠ 0 then ([], barsD d [n])
  else match getF d.files n with
    | none => ([], 5)
    | some f => (f.all, 0)

def failD (d : DiskP) (n : Int) : DiskP := { d with set := max (-1) n }

/-- How many wet bytes stay of the i-th file. -/
def staysN (keep : List Int) (i : Nat) (wet : Nat) : Nat := match keep[i]? with
  | none => 0
  | some k => (k % ((wet : Int) + 1)).toNat

def onFile (keep : List Int) (i : Nat) (f : FileP) : FileP :=
  { f with dry := f.dry ++ f.wet.take (staysN keep i f.wet.length), wet := [], born := f.born || decide (0 < (f.dry ++ f.wet.take (staysN keep i f.wet.length)).length) }

def onFiles (keep : List Int) : Nat → List FileP → List FileP
  | _, [] => []
  | i, f :: fs => if (onFile keep i f).born then onFile keep i f :: onFiles keep (i + 1) fs else onFiles keep (i + 1) fs

def onD (d : DiskP) (keep : List Int) : DiskP := if d.off then { d with files := onFiles keep 0 d.files, set := -1, off := false } else { d with set := -1 }

theorem stepD_files (d : DiskP) : (stepD d).files = d.files := by
  unfold stepD crashD
  split <;> rfl

theorem stepD_quota (d : DiskP) : (stepD d).quota = d.quota := by
  unfold stepD crashD
  split <;> rfl

theorem stepD_off (d : DiskP) : (stepD d).off = (!stepOk d || d.off) := by
  unfold stepD stepOk crashD
  by_cases h : d.set = 0
  · rw [if_pos h]; simp [h]
  · rw [if_neg h]; simp [h]

theorem stepD_set (d : DiskP) : -1 ≤ (stepD d).set := by
  unfold stepD crashD
  split
  · exact Int.le_refl _
  · show -1 ≤ max (-1) (d.set - 1)
    omega

theorem mem_onFiles {keep : List Int} {g : FileP} : ∀ {fs : List FileP} {i : Nat}, g ∈ onFiles keep i fs → ∃ f ∈ fs, ∃ j, g = onFile keep j f
  | [], _, h => by cases h
  | f :: fs, i, h => by
    unfold onFiles at h
    split at h
    · rcases List.mem_cons.1 h with rfl | h
      · exact ⟨f, List.mem_cons_self, i, rfl⟩
      · obtain ⟨k, hk, j, e⟩ := mem_onFiles h
        exact ⟨k, List.mem_cons_of_mem _ hk, j, e⟩
    · obtain ⟨k, hk, j, e⟩ := mem_onFiles h
      exact ⟨k, List.mem_cons_of_mem _ hk, j, e⟩

theorem sorted_on (keep : List Int) : ∀ (fs : List FileP) (i : Nat), SortedF fs → SortedF (onFiles keep i fs)
  | [], _, _ => List.Pairwise.nil
  | f :: fs, i, hs => by
    obtain ⟨h1, h2⟩ := List.pairwise_cons.1 hs
    unfold onFiles
    split
    · refine List.pairwise_cons.2 ⟨fun g hg => ?_, sorted_on keep fs _ h2⟩
      obtain ⟨k, hk, j, rfl⟩ := mem_onFiles hg
      exact h1 k hk
    · exact sorted_on keep fs _ h2

/-- What stays of a file behind a crash. -/
theorem get_on (keep : List Int) (n : Bs) : ∀ (fs : List FileP) (i : Nat), SortedF fs → ∃ j, getF (onFiles keep i fs) n = (getF fs n).bind fun f => if (onFile keep j f).born then some (onFile keep j f) else none
  | [], i, _ => ⟨i, rfl⟩
  | f :: fs, i, hs => by
    obtain ⟨h1, h2⟩ := List.pairwise_cons.1 hs
    obtain ⟨j, ih⟩ := get_on keep n fs (i + 1) h2
    rw [getF_cons]
    unfold onFiles
    by_cases e : f.name = n
    · rw [if_pos e]
      refine ⟨i, ?_⟩
      rw [Option.bind_some]
      split
      · rw [getF_cons]
        exact if_pos e
      · rw [ih, getF_none_of_lt fs n fun k hk => by rw [← e]; exact h1 k hk]
        rfl
    · rw [if_neg e]
      refine ⟨j, ?_⟩
      rw [← ih]
      split
      · rw [getF_cons]
        exact if_neg e
      · rfl
end Go.Proofs.YtlfmkiclaijokaaGreatDoor

namespace Go.Proofs.YtlfmkiclaijokaaGreatDoor

def bodyB (tag : UInt8) (n : Nat) (b : Bs) : Bs := [tag] ++ be 8 n ++ be 4 b.length ++ b
def frameB (tag : UInt8) (n : Nat) (b : Bs) : Bs := bodyB tag n b ++ be 4 (sumB (bodyB tag n b)).toNat

theorem be_len (k n : Nat) : (be k n).length = k := be_length k n

theorem bodyB_length (tag : UInt8) (n : Nat) (b : Bs) : (bodyB tag n b).length = 13 + b.length := by
  unfold bodyB
  simp [be_length]
  omega

theorem frameB_length (tag : UInt8) (n : Nat) (b : Bs) : (frameB tag n b).length = 17 + b.length := by
  unfold frameB
  rw [List.length_append, bodyB_length, be_length]
  omega

/-- What is framed at the beginning of bytes. -/
def unframeP (tag : UInt8) (most : Nat) (b : Bs) : Option (Bs × Nat × Bs) :=
  if 17 ≤ b.length ∧ b.head? = some tag ∧ 1 ≤ num ((b.drop 1).take 8) ∧ num ((b.drop 1).take 8) ≤ 4611686018427387904 ∧ num ((b.drop 9).take 4) ≤ most ∧ 17 + num ((b.drop 9).take 4) ≤ b.length ∧
      num ((b.drop (13 + num ((b.drop 9).take 4))).take 4) = (sumB (b.take (13 + num ((b.drop 9).take 4)))).toNat
  then some ((b.drop 13).take (num ((b.drop 9).take 4)), num ((b.drop 1).take 8), b.drop (17 + num ((b.drop 9).take 4))) else none

theorem unframe_short (tag : UInt8) (most : Nat) (b : Bs) (h : b.length < 17) : unframeP tag most b = none := by
  unfold unframeP
  exact if_neg fun h2 => by omega

theorem unframe_far (tag : UInt8) (most : Nat) (b : Bs) (h : b.length < 17 + num ((b.drop 9).take 4)) : unframeP tag most b = none := by
  unfold unframeP
  exact if_neg fun h2 => by omega

/-- The parts of what is framed. -/
theorem frame_parts (tag : UInt8) (n : Nat) (b rest : Bs) (hn : n < 256 ^ 8) (hb : b.length < 256 ^ 4) :
    (frameB tag n b ++ rest).head? = some tag ∧ num (((frameB tag n b ++ rest).drop 1).take 8) = n ∧ num (((frameB tag n b ++ rest).drop 9).take 4) = b.length ∧
    ((frameB tag n b ++ rest).drop 13).take b.length = b ∧ (frameB tag n b ++ rest).take (13 + b.length) = bodyB tag n b ∧
    ((frameB tag n b ++ rest).drop (13 + b.length)).take 4 = be 4 (sumB (bodyB tag n b)).toNat ∧ (frameB tag n b ++ rest).drop (17 + b.length) = rest := by
  have hl := bodyB_length tag n b
  have e0 : frameB tag n b ++ rest = tag :: (be 8 n ++ (be 4 b.length ++ (b ++ (be 4 (sumB (bodyB tag n b)).toNat ++ rest)))) := by
    unfold frameB bodyB
    simp [List.append_assoc]
  have e1 : frameB tag n b ++ rest = bodyB tag n b ++ (be 4 (sumB (bodyB tag n b)).toNat ++ rest) := by
    unfold frameB
    rw [List.append_assoc]
  refine ⟨by rw [e0]; rfl, ?_, ?_, ?_, ?_, ?_, ?_⟩
  · rw [e0, List.drop_succ_cons, List.drop_zero, List.take_left' (be_length 8 n), num_be, Nat.mod_eq_of_lt hn]
  · have : (frameB tag n b ++ rest).drop 9 = be 4 b.length ++ (b ++ (be 4 (sumB (bodyB tag n b)).toNat ++ rest)) := by
      rw [e0, List.drop_succ_cons]
      exact List.drop_left' (be_length 8 n)
    rw [this, List.take_left' (be_length 4 _), num_be, Nat.mod_eq_of_lt hb]
  · have : (frameB tag n b ++ rest).drop 13 = b ++ (be 4 (sumB (bodyB tag n b)).toNat ++ rest) := by
      rw [e0, List.drop_succ_cons, ← List.append_assoc (be 8 n)]
      exact List.drop_left' (by simp [be_length])
    rw [this]
    exact List.take_left
  · rw [e1]
    exact List.take_left' hl
  · rw [e1, List.drop_left' hl]
    exact List.take_left' (be_length 4 _)
  · rw [e1, ← List.append_assoc]
    exact List.drop_left' (by rw [List.length_append, hl, be_length]; omega)

theorem unframe_frame (tag : UInt8) (most n : Nat) (b rest : Bs) (h1 : 1 ≤ n) (h2 : n ≤ 4611686018427387904) (hb : b.length ≤ most) (hm : most < 256 ^ 4) :
    unframeP tag most (frameB tag n b ++ rest) = some (b, n, rest) := by
  have hp : (256 : Nat) ^ 8 = 18446744073709551616 := by decide
  obtain ⟨p1, p2, p3, p4, p5, p6, p7⟩ := frame_parts tag n b rest (by omega) (by omega)
  have hl : (frameB tag n b ++ rest).length = 17 + b.length + rest.length := by rw [List.length_append, frameB_length]
  unfold unframeP
  rw [p2, p3, p4, p5, p6, p7, if_pos]
  refine ⟨by omega, p1, h1, h2, hb, by omega, ?_⟩
  rw [num_be, Nat.mod_eq_of_lt]
  have := (sumB (bodyB tag n b)).isLt
  have hp4 : (256 : Nat) ^ 4 = 4294967296 := by decide
  omega

/-- A torn one is none. -/
theorem unframe_torn (tag : UInt8) (most n : Nat) (b t : Bs) (hn : n < 256 ^ 8) (hb : b.length < 256 ^ 4) (ht : t <+: frameB tag n b) (hl : t.length < (frameB tag n b).length) : unframeP tag most t = none := by
  by_cases h : t.length < 17
  · exact unframe_short tag most t h
  · refine unframe_far tag most t ?_
    obtain ⟨s, hs⟩ := ht
    have hp := (frame_parts tag n b [] hn hb).2.2.1
    rw [List.append_nil, ← hs] at hp
    have e : ((t ++ s).drop 9).take 4 = (t.drop 9).take 4 := by
      rw [List.drop_append_of_le_length (by omega), List.take_append_of_le_length (by rw [List.length_drop]; omega)]
    rw [e] at hp
    rw [hp, ← frameB_length tag n b]
    exact hl

/-- Records, one behind the other. -/
def recsB : Nat → List Bs → Bs
  | _, [] => []
  | i, b :: l => frameB 82 i b ++ recsB (i + 1) l

theorem recsB_append (l m : List Bs) : ∀ i, recsB i (l ++ m) = recsB i l ++ recsB (i + l.length) m := by
  induction l with
  | nil => intro i; simp [recsB]
  | cons b l ih =>
    intro i
    have : i + 1 + l.length = i + (l.length + 1) := by omega
    show frameB 82 i b ++ recsB (i + 1) (l ++ m) = (frameB 82 i b ++ recsB (i + 1) l) ++ recsB (i + (l.length + 1)) m
    rw [ih, List.append_assoc, this]

/-- The records at the beginning of bytes, and how many bytes they have. -/
def scanP : Nat → Nat → Bs → List Bs × Nat
  | 0, _, _ => ([], 0)
  | fuel + 1, i, b => match unframeP 82 1048576 b with
    | none => ([], 0)
    | some (s, n, rest) => if n = i then (s :: (scanP fuel (i + 1) rest).1, (17 + s.length) + (scanP fuel (i + 1) rest).2) else ([], 0)

theorem scan_recs (l : List Bs) (t : Bs) (hl : ∀ b ∈ l, b.length ≤ 1048576) (ht : unframeP 82 1048576 t = none) :
    ∀ fuel i, l.length < fuel → 1 ≤ i → i + l.length ≤ 4611686018427387904 → scanP fuel i (recsB i l ++ t) = (l, (recsB i l).length) := by
  induction l with
  | nil =>
    intro fuel i hf _ _
    cases fuel with
    | zero => cases hf
    | succ fuel =>
      unfold scanP
      rw [show recsB i [] ++ t = t from rfl, ht]
      rfl
  | cons b l ih =>
    intro fuel i hf h1 hi
    cases fuel with
    | zero => cases hf
    | succ fuel =>
      rw [List.length_cons] at hf hi
      have hb := hl b List.mem_cons_self
      have hu := unframe_frame 82 1048576 i b (recsB (i + 1) l ++ t) h1 (by omega) hb (by decide)
      have e : recsB i (b :: l) ++ t = frameB 82 i b ++ (recsB (i + 1) l ++ t) := by
        show (frameB 82 i b ++ recsB (i + 1) l) ++ t = _
        rw [List.append_assoc]
      unfold scanP
      rw [e, hu]
      simp only [if_true]
      rw [ih (fun x hx => hl x (List.mem_cons_of_mem _ hx)) fuel (i + 1) (by omega) (by omega) (by omega)]
      refine Prod.ext rfl ?_
      show _ = (frameB 82 i b ++ recsB (i + 1) l).length
      rw [List.length_append, frameB_length]

/-- A beginning of records: whole ones, and a torn one. -/
theorem prefix_recs (l : List Bs) (hl : ∀ b ∈ l, b.length ≤ 1048576) : ∀ (i : Nat) (c : Bs), i + l.length ≤ 4611686018427387904 → c <+: recsB i l →
    ∃ k t, k ≤ l.length ∧ c = recsB i (l.take k) ++ t ∧ unframeP 82 1048576 t = none := by
  have hp8 : (256 : Nat) ^ 8 = 18446744073709551616 := by decide
  have hp4 : (256 : Nat) ^ 4 = 4294967296 := by decide
  induction l with
  | nil =>
    intro i c _ hc
    have : c = [] := by simpa [recsB] using hc
    subst this
    exact ⟨0, [], Nat.le_refl _, rfl, unframe_short _ _ _ (by decide)⟩
  | cons b l ih =>
    intro i c hi hc
    rw [List.length_cons] at hi
    have hb := hl b List.mem_cons_self
    have hc' : c <+: frameB 82 i b ++ recsB (i + 1) l := hc
    by_cases hlen : c.length < (frameB 82 i b).length
    · exact ⟨0, c, Nat.zero_le _, rfl, unframe_torn 82 _ i b c (by omega) (by omega) (List.prefix_of_prefix_length_le hc' (List.prefix_append _ _) (by omega)) hlen⟩
    · obtain ⟨t, rfl⟩ : frameB 82 i b <+: c := List.prefix_of_prefix_length_le (List.prefix_append _ _) hc' (by omega)
      have ht : t <+: recsB (i + 1) l := (List.prefix_append_right_inj _).1 hc'
      obtain ⟨k, t', hk, rfl, ht'⟩ := ih (fun x hx => hl x (List.mem_cons_of_mem _ hx)) (i + 1) t (by omega) ht
      refine ⟨k + 1, t', by rw [List.length_cons]; omega, ?_, ht'⟩
      rw [List.take_succ_cons]
      show frameB 82 i b ++ _ = (frameB 82 i b ++ recsB (i + 1) (l.take k)) ++ t'
      rw [List.append_assoc]

theorem recsB_len_mono (l : List Bs) (i j k : Nat) (h : j ≤ k) : (recsB i (l.take j)).length ≤ (recsB i (l.take k)).length := by
  have e : l.take k = l.take j ++ (l.take k).drop j := by
    have := (List.take_append_drop j (l.take k)).symm
    rwa [List.take_take, Nat.min_eq_left h] at this
  rw [e, recsB_append, List.length_append]
  omega

/-- As many records as bytes say. -/
theorem recsB_len_le (l : List Bs) (i j k : Nat) (hj : j ≤ l.length) (t : Bs) (hu : unframeP 82 1048576 t = none) (hl : ∀ b ∈ l, b.length ≤ 1048576) (hi : 1 ≤ i) (hil : i + l.length ≤ 4611686018427387904)
    (hc : recsB i (l.take k) ++ t <+: recsB i l) (h : (recsB i (l.take j)).length ≤ (recsB i (l.take k) ++ t).length) : j ≤ k := by
  refine Classical.byContradiction fun hn => ?_
  have hkj : k < j := by omega
  have hkl : k < l.length := by omega
  have e1 : l = l.take k ++ (l[k] :: l.drop (k + 1)) := by rw [← List.drop_eq_getElem_cons hkl, List.take_append_drop]
  have e2 : recsB i l = recsB i (l.take k) ++ (frameB 82 (i + k) l[k] ++ recsB (i + k + 1) (l.drop (k + 1))) := by
    conv => lhs; rw [e1]
    rw [recsB_append, List.length_take, Nat.min_eq_left (by omega)]
    rfl
  have e3 : l.take (k + 1) = l.take k ++ [l[k]] := List.take_succ_eq_append_getElem hkl
  have e4 : (recsB i (l.take (k + 1))).length = (recsB i (l.take k)).length + (frameB 82 (i + k) l[k]).length := by
    rw [e3, recsB_append, List.length_append, List.length_take, Nat.min_eq_left (by omega)]
    simp [recsB]
  have h1 := recsB_len_mono l i (k + 1) j (by omega)
  rw [List.length_append] at h
  have hlen : (frameB 82 (i + k) l[k]).length ≤ t.length := by omega
  rw [e2] at hc
  have hc2 : t <+: frameB 82 (i + k) l[k] ++ recsB (i + k + 1) (l.drop (k + 1)) := (List.prefix_append_right_inj _).1 hc
  have hpre : frameB 82 (i + k) l[k] <+: t := List.prefix_of_prefix_length_le (List.prefix_append _ _) hc2 hlen
  obtain ⟨s, rfl⟩ := hpre
  have hb := hl l[k] (List.getElem_mem hkl)
  rw [unframe_frame 82 1048576 (i + k) l[k] s (by omega) (by omega) hb (by decide)] at hu
  cases hu
end Go.Proofs.YtlfmkiclaijokaaGreatDoor

namespace Go.Proofs.YtlfmkiclaijokaaGreatDoor

def ckN : Bs := [99, 107]
def tmpN : Bs := [99, 107, 46, 116, 109, 112]
def logPre : Bs := [108, 111, 103, 46]
def decF : Nat → Nat → Bs
  | 0, _ => []
  | f + 1, g => if g < 10 then [UInt8.ofNat (48 + g)] else decF f (g / 10) ++ [UInt8.ofNat (48 + g % 10)]
def nameW (g : Nat) : Bs := logPre ++ decF 20 g

theorem nameW_all : ∀ g : Fin 128, nameW g ≠ ckN ∧ nameW g ≠ tmpN ∧ badName (nameW g) = false := by decide +kernel
theorem nameW_inj' : ∀ g h : Fin 128, nameW g = nameW h → g = h := by decide +kernel
theorem nameW_inj {g h : Nat} (hg : g < 128) (hh : h < 128) (e : nameW g = nameW h) : g = h := by
  have := nameW_inj' ⟨g, hg⟩ ⟨h, hh⟩ e
  exact congrArg Fin.val this
theorem nameW_ck {g : Nat} (hg : g < 128) : nameW g ≠ ckN := (nameW_all ⟨g, hg⟩).1
theorem nameW_tmp {g : Nat} (hg : g < 128) : nameW g ≠ tmpN := (nameW_all ⟨g, hg⟩).2.1
theorem nameW_bad {g : Nat} (hg : g < 128) : badName (nameW g) = false := (nameW_all ⟨g, hg⟩).2.2
theorem tmp_ck : tmpN ≠ ckN := by decide
theorem ck_bad : badName ckN = false := by decide
theorem tmp_bad : badName tmpN = false := by decide

structure WalP where
  gen : Nat
  state : Bs
  recs : List Bs
  sure : Nat
  size : Nat
  broken : Int

/-- What an opening removes. -/
def toRemove (own n : Bs) : Bool := decide (n = tmpN) || (logPre.isPrefixOf n && decide (n ≠ own))

def tidyP (own : Bs) : List Bs → DiskP → Int × DiskP
  | [], d => (0, d)
  | n :: l, d => if toRemove own n then (if (removeD d n).1 ≠ 0 then removeD d n else tidyP own l (removeD d n).2) else tidyP own l d

/-- The state's file: the state, its generation; none: it is spoilt. -/
def loadP (d : DiskP) : Option (Bs × Nat) :=
  if (readD d ckN).2 = 0 then match unframeP 75 8000000 (readD d ckN).1 with
    | some (s, g, []) => some (s, g)
    | _ => none
  else some ([], 0)

def lastP (d : DiskP) (g : Nat) (s : Bs) : Int × Option WalP × DiskP :=
  if (readD d (nameW g)).2 ≠ 0 then (0, some ⟨g, s, [], 0, 0, 0⟩, d)
  else
    let b := (readD d (nameW g)).1
    let r := scanP (b.length + 1) 1 b
    let x := if r.2 < b.length then driesD d (nameW g) (nameW g) (cutL r.2) else driesD d (nameW g) (nameW g) wholeL
    if x.1 ≠ 0 then (x.1, none, x.2) else (0, some ⟨g, s, r.1, r.1.length, r.2, 0⟩, x.2)

def openW (d : DiskP) : Int × Option WalP × DiskP :=
  if d.off then (40, none, d)
  else match loadP d with
    | none => (50, none, d)
    | some (s, g) =>
      let t := tidyP (nameW g) (d.files.map FileP.name) d
      if t.1 ≠ 0 then (t.1, none, t.2) else lastP t.2 g s

def metW (e : Int) (W : WalP) : WalP := if e = 40 then { W with broken := 40 } else W

def appendW (d : DiskP) (W : WalP) (b : Bs) : Int × WalP × DiskP :=
  if W.broken ≠ 0 then (W.broken, W, d)
  else if 1048576 < b.length then (3, W, d)
  else
    let f := frameB 82 (W.recs.length + 1) b
    let x := appendD d (nameW W.gen) f
    if x.1 ≠ 0 then (x.1, metW x.1 W, x.2) else (0, { W with recs := W.recs ++ [b], size := W.size + f.length }, x.2)

def commitW (d : DiskP) (W : WalP) : Int × WalP × DiskP :=
  if W.broken ≠ 0 then (W.broken, W, d)
  else if W.sure = W.recs.length then (0, W, d)
  else
    let x := driesD d (nameW W.gen) (nameW W.gen) wholeL
    if x.1 = 0 then (0, { W with sure := W.recs.length }, x.2) else (x.1, metW x.1 W, x.2)

def step0 (d : DiskP) : Int × DiskP := if (readD d tmpN).2 = 0 then removeD d tmpN else (0, d)

def checkW (d : DiskP) (W : WalP) (b : Bs) : Int × WalP × DiskP :=
  if W.broken ≠ 0 then (W.broken, W, d)
  else if 8000000 < b.length then (3, W, d)
  else if W.sure < W.recs.length then (2, W, d)
  else
    let x0 := step0 d
    if x0.1 ≠ 0 then (x0.1, metW x0.1 W, x0.2) else
    let x1 := appendD x0.2 tmpN (frameB 75 (W.gen + 1) b)
    if x1.1 ≠ 0 then (x1.1, metW x1.1 W, x1.2) else
    let x2 := driesD x1.2 tmpN tmpN wholeL
    if x2.1 ≠ 0 then (x2.1, metW x2.1 W, x2.2) else
    let x3 := driesD x2.2 tmpN ckN wholeL
    if x3.1 ≠ 0 then (x3.1, metW x3.1 W, x3.2) else
    let W1 : WalP := ⟨W.gen + 1, b, [], 0, 0, 0⟩
    if (readD x3.2 (nameW W.gen)).2 = 0 then
      let x4 := removeD x3.2 (nameW W.gen)
      (x4.1, metW x4.1 W1, x4.2)
    else (0, W1, x3.2)

/-- What holds of a disk, also amid calls: the state g, s; the records, of which so many are sure. -/
structure InvD (d : DiskP) (g : Nat) (s : Bs) (rows : List Bs) (sure : Nat) : Prop where
  sorted : SortedF d.files
  set : -1 ≤ d.set
  quota : d.quota = 1048576
  ck : getF d.files ckN = if g = 0 then none else some ⟨ckN, frameB 75 g s, [], true⟩
  zero : g = 0 → s = []
  pre : (fileOf d (nameW g)).all <+: recsB 1 rows
  dry : (recsB 1 (rows.take sure)).length ≤ (fileOf d (nameW g)).dry.length
  sur : sure ≤ rows.length
  names : ∀ f ∈ d.files, f.name = ckN ∨ f.name = tmpN ∨ ∃ h, h < 128 ∧ f.name = nameW h
  gs : g < 100
  ss : s.length ≤ 6000
  rs : (recsB 1 rows).length ≤ 10000

theorem recsB_mem {l : List Bs} {b : Bs} (h : b ∈ l) : ∀ i, b.length ≤ (recsB i l).length := by
  induction l with
  | nil => cases h
  | cons c l ih =>
    intro i
    show _ ≤ (frameB 82 i c ++ recsB (i + 1) l).length
    rw [List.length_append, frameB_length]
    rcases List.mem_cons.1 h with rfl | h
    · omega
    · have := ih h (i + 1)
      omega

theorem recsB_many (l : List Bs) : ∀ i, 17 * l.length ≤ (recsB i l).length := by
  induction l with
  | nil => exact fun _ => Nat.le_refl _
  | cons c l ih =>
    intro i
    show _ ≤ (frameB 82 i c ++ recsB (i + 1) l).length
    rw [List.length_append, frameB_length, List.length_cons]
    have := ih (i + 1)
    omega

section
variable {d : DiskP} {g : Nat} {s : Bs} {rows : List Bs} {sure : Nat}

theorem fileOf_congr {d d' : DiskP} (h : d'.files = d.files) (n : Bs) : fileOf d' n = fileOf d n := by
  unfold fileOf
  rw [h]

theorem InvD.congr {d' : DiskP} (h : InvD d g s rows sure) (hf : d'.files = d.files) (hq : d'.quota = d.quota) (hs : -1 ≤ d'.set) : InvD d' g s rows sure :=
  ⟨hf ▸ h.sorted, hs, hq ▸ h.quota, by rw [hf]; exact h.ck, h.zero, by rw [fileOf_congr hf]; exact h.pre, by rw [fileOf_congr hf]; exact h.dry, h.sur, by rw [hf]; exact h.names, h.gs, h.ss, h.rs⟩

theorem InvD.crash (h : InvD d g s rows sure) : InvD (crashD d) g s rows sure := h.congr rfl rfl (Int.le_refl _)
theorem InvD.fail (h : InvD d g s rows sure) (n : Int) : InvD (failD d n) g s rows sure := h.congr rfl rfl (by show -1 ≤ max (-1) n; omega)
theorem InvD.step (h : InvD d g s rows sure) : InvD (stepD d) g s rows sure := h.congr (stepD_files d) (stepD_quota d) (stepD_set d)

theorem fileOf_on (d : DiskP) (keep : List Int) (hs : SortedF d.files) (ho : d.off = true) (n : Bs) :
    ∃ k, (fileOf (onD d keep) n).dry = (fileOf d n).dry ++ (fileOf d n).wet.take k ∧ (fileOf (onD d keep) n).wet = [] := by
  obtain ⟨j, hj⟩ := get_on keep n d.files 0 hs
  have hf : (onD d keep).files = onFiles keep 0 d.files := by unfold onD; rw [if_pos ho]
  unfold fileOf
  rw [hf, hj]
  rcases hg : getF d.files n with _ | f
  · exact ⟨0, rfl, rfl⟩
  · rw [Option.bind_some, Option.getD_some]
    refine ⟨staysN keep j f.wet.length, ?_⟩
    split
    · exact ⟨rfl, rfl⟩
    · next hb =>
      refine ⟨?_, rfl⟩
      have hb2 : (onFile keep j f).born = false := by simpa using hb
      unfold onFile at hb2
      simp only [Bool.or_eq_false_iff, decide_eq_false_iff_not] at hb2
      exact (List.eq_nil_of_length_eq_zero (by omega)).symm

theorem InvD.on (h : InvD d g s rows sure) (keep : List Int) : InvD (onD d keep) g s rows sure := by
  by_cases ho : d.off = true
  · have hf : (onD d keep).files = onFiles keep 0 d.files := by unfold onD; rw [if_pos ho]
    obtain ⟨k, hk1, hk2⟩ := fileOf_on d keep h.sorted ho (nameW g)
    refine ⟨by rw [hf]; exact sorted_on keep _ _ h.sorted, by unfold onD; rw [if_pos ho]; exact Int.le_refl _, by unfold onD; rw [if_pos ho]; exact h.quota, ?_, h.zero, ?_, ?_, h.sur, ?_, h.gs, h.ss, h.rs⟩
    · obtain ⟨j, hj⟩ := get_on keep ckN d.files 0 h.sorted
      rw [hf, hj, h.ck]
      by_cases hg : g = 0
      · rw [if_pos hg]; rfl
      · rw [if_neg hg, Option.bind_some]
        have e : onFile keep j ⟨ckN, frameB 75 g s, [], true⟩ = ⟨ckN, frameB 75 g s, [], true⟩ := by simp [onFile]
        rw [e]
        rfl
    · unfold FileP.all
      rw [hk1, hk2, List.append_nil]
      refine List.IsPrefix.trans ?_ h.pre
      unfold FileP.all
      exact (List.prefix_append_right_inj _).2 (List.take_prefix _ _)
    · rw [hk1, List.length_append]
      have := h.dry
      omega
    · rw [hf]
      intro f hf
      obtain ⟨f', hf', j, rfl⟩ := mem_onFiles hf
      exact h.names f' hf'
  · exact h.congr (by unfold onD; rw [if_neg ho]) (by unfold onD; rw [if_neg ho]) (by unfold onD; rw [if_neg ho]; exact Int.le_refl _)

theorem onD_off (d : DiskP) (keep : List Int) : (onD d keep).off = false := by
  unfold onD
  split
  · rfl
  · next h => simpa using h
theorem onD_set (d : DiskP) (keep : List Int) : (onD d keep).set = -1 := by
  unfold onD
  split <;> rfl

/-- A disk of which one file, that is none of those that matter, is gone. -/
theorem InvD.gone (h : InvD d g s rows sure) (n : Bs) (h1 : n ≠ ckN) (h2 : n ≠ nameW g) : InvD { d with files := delF n d.files } g s rows sure := by
  have e : fileOf { d with files := delF n d.files } (nameW g) = fileOf d (nameW g) := by
    unfold fileOf
    show (getF (delF n d.files) (nameW g)).getD _ = _
    rw [get_del, if_neg (fun e => h2 e.symm)]
  refine ⟨sorted_del n _ h.sorted, h.set, h.quota, ?_, h.zero, by rw [e]; exact h.pre, by rw [e]; exact h.dry, h.sur, fun f hf => h.names f (List.mem_filter.1 hf).1, h.gs, h.ss, h.rs⟩
  show getF (delF n d.files) ckN = _
  rw [get_del, if_neg (fun e => h1 e.symm)]
  exact h.ck

theorem removeD_ok (d : DiskP) (n : Bs) (ho : d.off = false) (hb : badName n = false) (hh : hasN d.files n = true) : removeD d n = if stepOk d then (0, { stepD d with files := delF n d.files }) else (40, stepD d) := by
  have e : barsD d [n] = 0 := by unfold barsD; rw [ho]; simp [hb]
  unfold removeD
  rw [e, if_neg (by decide), if_pos hh]

/-- An opening's removals. -/
theorem tidy_inv (own : Bs) (hown : own = nameW g) : ∀ (l : List Bs) (d : DiskP), InvD d g s rows sure → d.off = false → l.Nodup → (∀ n ∈ l, hasN d.files n = true) →
    ((tidyP own l d).1 = 0 ∧ (tidyP own l d).2.off = false ∧ InvD (tidyP own l d).2 g s rows sure ∧ (∀ f ∈ (tidyP own l d).2.files, f ∈ d.files ∧ ¬ (f.name ∈ l ∧ toRemove own f.name = true)) ∧ (∀ n, toRemove own n = false → getF (tidyP own l d).2.files n = getF d.files n) ∧ (d.set = -1 → (tidyP own l d).2.set = -1)) ∨
    ((tidyP own l d).1 = 40 ∧ (tidyP own l d).2.off = true ∧ InvD (tidyP own l d).2 g s rows sure ∧ d.set ≠ -1)
  | [], d, h, ho, _, _ => .inl ⟨rfl, ho, h, fun f hf => ⟨hf, fun c => by cases c.1⟩, fun _ _ => rfl, fun h => h⟩
  | n :: l, d, h, ho, hn, hh => by
    obtain ⟨hn1, hn2⟩ := List.nodup_cons.1 hn
    unfold tidyP
    by_cases ht : toRemove own n = true
    · rw [if_pos ht]
      have hhn := hh n List.mem_cons_self
      obtain ⟨f, hf⟩ := Option.isSome_iff_exists.1 hhn
      obtain ⟨hfn, hfm⟩ := getF_name hf
      have hbad : badName n = false := by
        rcases h.names f hfm with e | e | ⟨k, hk, e⟩
        · rw [← hfn, e]; exact ck_bad
        · rw [← hfn, e]; exact tmp_bad
        · rw [← hfn, e]; exact nameW_bad hk
      have hne1 : n ≠ ckN := fun e => by rw [e] at ht; revert ht; unfold toRemove; simp [tmp_ck.symm]; intro c; exact absurd c (by decide)
      have hne2 : n ≠ nameW g := fun e => by
        rw [← hown] at e
        rw [e] at ht
        unfold toRemove at ht
        have hg128 : g < 128 := by have := h.gs; omega
        simp only [Bool.or_eq_true, decide_eq_true_eq, Bool.and_eq_true, ne_eq, not_true_eq_false, decide_false, Bool.false_eq_true, and_false, or_false] at ht
        rw [hown] at ht
        exact nameW_tmp hg128 ht
      rw [removeD_ok d n ho hbad hhn]
      by_cases hst : stepOk d = true
      · rw [if_pos hst]
        simp only [ne_eq, not_true_eq_false, if_false]
        have h1 : InvD { stepD d with files := delF n d.files } g s rows sure := by
          have := h.step.gone n hne1 hne2
          rw [stepD_files] at this
          exact this
        have ho1 : ({ stepD d with files := delF n d.files } : DiskP).off = false := by
          show (stepD d).off = false
          rw [stepD_off, hst, ho]; rfl
        have hset1 : d.set = -1 → ({ stepD d with files := delF n d.files } : DiskP).set = -1 := fun e => by
          show (stepD d).set = -1
          unfold stepD
          rw [if_neg (by rw [e]; decide)]
          show max (-1) (d.set - 1) = -1
          omega
        rcases tidy_inv own hown l _ h1 ho1 hn2 (fun m hm => by
            unfold hasN
            show (getF (delF n d.files) m).isSome = true
            rw [get_del, if_neg (by intro e; subst e; exact hn1 hm)]
            exact hh m (List.mem_cons_of_mem _ hm)) with ⟨a1, a2, a3, a4, a5, a6⟩ | ⟨a1, a2, a3, a4⟩
        · refine .inl ⟨a1, a2, a3, fun f hf => ?_, fun m hm => ?_, fun e => a6 (hset1 e)⟩
          · obtain ⟨b1, b2⟩ := a4 f hf
            have b1' : f ∈ delF n d.files := b1
            refine ⟨(List.mem_filter.1 b1').1, fun c => ?_⟩
            rcases List.mem_cons.1 c.1 with e | hm
            · have := (List.mem_filter.1 b1').2
              simp [e] at this
            · exact b2 ⟨hm, c.2⟩
          · rw [a5 m hm]
            show getF (delF n d.files) m = _
            rw [get_del, if_neg]
            intro e
            rw [e, ht] at hm
            cases hm
        · exact .inr ⟨a1, a2, a3, fun e => a4 (hset1 e)⟩
      · rw [if_neg hst]
        simp only [ne_eq, Int.reduceEq, not_false_eq_true, if_true]
        have hst2 : stepOk d = false := by simpa using hst
        refine .inr ⟨trivial, ?_, h.step, ?_⟩
        · rw [stepD_off, hst2]; rfl
        · intro e
          unfold stepOk at hst2
          rw [e] at hst2
          simp at hst2
    · rw [if_neg ht]
      rcases tidy_inv own hown l d h ho hn2 (fun m hm => hh m (List.mem_cons_of_mem _ hm)) with ⟨a1, a2, a3, a4, a5, a6⟩ | r
      · refine .inl ⟨a1, a2, a3, fun f hf => ?_, a5, a6⟩
        obtain ⟨b1, b2⟩ := a4 f hf
        refine ⟨b1, fun c => ?_⟩
        rcases List.mem_cons.1 c.1 with e | hm
        · exact ht (e ▸ c.2)
        · exact b2 ⟨hm, c.2⟩
      · exact .inr r
end
end Go.Proofs.YtlfmkiclaijokaaGreatDoor

namespace Go.Proofs.YtlfmkiclaijokaaGreatDoor

/-- A reader's number: what it is, where the reader stands behind it. -/
def rdN (all : Bs) (st : Option Nat) (m : Nat) : Nat × Option Nat := match st with
  | some k => if k + m ≤ all.length then (num ((all.drop k).take m), some (k + m)) else (0, none)
  | none => (0, none)

theorem rdN_lt (all : Bs) (st : Option Nat) (m : Nat) : (rdN all st m).1 < 256 ^ m := by
  unfold rdN
  have h0 : 0 < 256 ^ m := Nat.pow_pos (by decide)
  cases st with
  | none => exact h0
  | some k =>
    dsimp only
    split
    · have h := num_lt ((all.drop k).take m)
      have h2 : ((all.drop k).take m).length ≤ m := by rw [List.length_take]; omega
      exact Nat.lt_of_lt_of_le h (Nat.pow_le_pow_right (by decide) h2)
    · exact h0

section
variable {tag : UInt8} {most : Nat} {b : Bs}

theorem unf_tag (h : (rdN b (some 0) 1).1 ≠ tag.toNat) : unframeP tag most b = none := by
  unfold unframeP
  refine if_neg fun ⟨h1, h2, _⟩ => h ?_
  unfold rdN
  dsimp only
  rw [if_pos (by omega)]
  cases b with
  | nil => cases h2
  | cons x l =>
    cases h2
    show num [tag] = tag.toNat
    unfold num
    simp

theorem unf_tag_ok (ht : tag.toNat ≠ 0) (h : (rdN b (some 0) 1).1 = tag.toNat) : 1 ≤ b.length ∧ b.head? = some tag ∧ (rdN b (some 0) 1).2 = some 1 := by
  unfold rdN at h ⊢
  dsimp only at h ⊢
  split at h
  · next hl =>
    rw [if_pos hl]
    refine ⟨by omega, ?_, rfl⟩
    cases b with
    | nil => simp at hl
    | cons x l =>
      have h' : num [x] = tag.toNat := h
      unfold num at h'
      simp at h'
      rw [List.head?_cons]
      exact congrArg some (UInt8.toNat_inj.1 h')
  · exact absurd h.symm ht

theorem unf_num (h : ¬ (1 ≤ (rdN b (some 1) 8).1 ∧ (rdN b (some 1) 8).1 ≤ 4611686018427387904)) : unframeP tag most b = none := by
  unfold unframeP
  refine if_neg fun ⟨h1, h2, h3, h4, _⟩ => h ?_
  unfold rdN
  dsimp only
  rw [if_pos (by omega)]
  exact ⟨h3, h4⟩

theorem unf_num_ok (h : 1 ≤ (rdN b (some 1) 8).1) : 9 ≤ b.length ∧ rdN b (some 1) 8 = (num ((b.drop 1).take 8), some 9) := by
  unfold rdN at h ⊢
  dsimp only at h ⊢
  split at h
  · next hl => rw [if_pos hl]; exact ⟨by omega, rfl⟩
  · cases h

theorem unf_size (h : ¬ (rdN b (some 9) 4).1 ≤ most) : unframeP tag most b = none := by
  unfold unframeP
  refine if_neg fun ⟨h1, h2, h3, h4, h5, _⟩ => h ?_
  unfold rdN
  dsimp only
  rw [if_pos (by omega)]
  exact h5

theorem unf_short (h : b.length < 17 + (rdN b (some 9) 4).1) : unframeP tag most b = none := by
  unfold rdN at h
  dsimp only at h
  split at h
  · exact unframe_far tag most b h
  · exact unframe_short tag most b (by omega)

theorem unf_short_ok (h : 17 + (rdN b (some 9) 4).1 ≤ b.length) : rdN b (some 9) 4 = (num ((b.drop 9).take 4), some 13) := by
  unfold rdN at h ⊢
  dsimp only at h ⊢
  split at h
  · next hl => rw [if_pos hl]
  · omega

theorem unf_sum (s : Nat) (hs : s = num ((b.drop 9).take 4)) (h : num ((b.drop (13 + s)).take 4) ≠ (sumB (b.take (13 + s))).toNat) : unframeP tag most b = none := by
  unfold unframeP
  refine if_neg fun ⟨h1, h2, h3, h4, h5, h6, h7⟩ => h ?_
  rw [hs]
  exact h7

theorem unf_yes (s n : Nat) (hs : s = num ((b.drop 9).take 4)) (hn : n = num ((b.drop 1).take 8)) (h1 : 17 + s ≤ b.length) (h2 : b.head? = some tag) (h3 : 1 ≤ n) (h4 : n ≤ 4611686018427387904) (h5 : s ≤ most)
    (h : num ((b.drop (13 + s)).take 4) = (sumB (b.take (13 + s))).toNat) : unframeP tag most b = some ((b.drop 13).take s, n, b.drop (17 + s)) := by
  unfold unframeP
  subst hs
  subst hn
  exact if_pos ⟨by omega, h2, h3, h4, h5, h1, h⟩
end
end Go.Proofs.YtlfmkiclaijokaaGreatDoor
