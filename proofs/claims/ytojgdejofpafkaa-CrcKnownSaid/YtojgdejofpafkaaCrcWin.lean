/- The document's long division, over a row of bits: plain laws. No program in sight. -/
import Derived.Test.YtojgdejofpafkaaCrc2
namespace Go.Proofs.Ytojgdejofpafkaa

/-- The divisor's bits, from x^32 down. -/
def dAt (k : Nat) : Bool := decide (k = 0) || (decide (k ≤ 32) && poly.getLsbD (32 - k))

/-- The row behind the k first of a round's steps. -/
def flipN (R : List Bool) (i : Nat) : Nat → List Bool
  | 0 => R
  | k + 1 => if k ≠ 0 ∧ dAt k = true then (flipN R i k).set (i + k) (!(flipN R i k).getD (i + k) false) else flipN R i k

theorem flipN_length (R : List Bool) (i : Nat) : ∀ k, (flipN R i k).length = R.length
  | 0 => rfl
  | k + 1 => by
    unfold flipN
    split
    · rw [List.length_set, flipN_length R i k]
    · exact flipN_length R i k

theorem flipN_get (R : List Bool) (i : Nat) : ∀ k j, (flipN R i k).getD j false = if i < j ∧ j < i + k ∧ j < R.length then (R.getD j false ^^ dAt (j - i)) else R.getD j false
  | 0, j => by rw [if_neg (by omega)]; rfl
  | k + 1, j => by
    have ih := flipN_get R i k
    have hl := flipN_length R i k
    unfold flipN
    split
    · next h =>
      by_cases hj : j = i + k
      · subst hj
        by_cases hlt : i + k < R.length
        · rw [List.getD_eq_getElem?_getD, List.getElem?_set_self (by omega), Option.getD_some, ih, if_neg (by omega), if_pos (by omega)]
          have : i + k - i = k := by omega
          rw [this, h.2, Bool.xor_true]
        · rw [List.set_eq_of_length_le (by omega), ih, if_neg (by omega), if_neg (by omega)]
      · rw [List.getD_eq_getElem?_getD, List.getElem?_set_ne (by omega), ← List.getD_eq_getElem?_getD, ih]
        by_cases c : i < j ∧ j < i + k ∧ j < R.length
        · rw [if_pos c, if_pos (by omega)]
        · rw [if_neg c, if_neg (by omega)]
    · next h =>
      rw [ih]
      by_cases c : i < j ∧ j < i + k ∧ j < R.length
      · rw [if_pos c, if_pos (by omega)]
      · rw [if_neg c]
        by_cases hj : i < j ∧ j < i + (k + 1) ∧ j < R.length
        · have : j - i = k := by omega
          rw [if_pos hj, this]
          have hk : dAt k = false := by
            rcases hd : dAt k with _ | _
            · rfl
            · exact absurd ⟨by omega, hd⟩ h
          rw [hk, Bool.xor_false]
        · rw [if_neg hj]

/-- The row behind i rounds. -/
def restR (R : List Bool) : Nat → List Bool
  | 0 => R
  | i + 1 => if (restR R i).getD i false then flipN (restR R i) i 33 else restR R i

theorem restR_length (R : List Bool) : ∀ i, (restR R i).length = R.length
  | 0 => rfl
  | i + 1 => by
    unfold restR
    split
    · rw [flipN_length, restR_length R i]
    · exact restR_length R i

theorem restR_far (R : List Bool) : ∀ i j, i + 32 ≤ j → (restR R i).getD j false = R.getD j false
  | 0, _, _ => rfl
  | i + 1, j, h => by
    unfold restR
    split
    · rw [flipN_get, if_neg (by omega), restR_far R i j (by omega)]
    · exact restR_far R i j (by omega)

def bitB (b : Bool) : BitVec 32 := if b then 1#32 else 0#32

/-- A row of n bits from the i-th on, as a number. -/
def win (f : Nat → Bool) (i : Nat) : Nat → BitVec 32
  | 0 => 0#32
  | n + 1 => (win f i n <<< 1) ^^^ bitB (f (i + n))

theorem win_congr {f g : Nat → Bool} {i k : Nat} : ∀ n, (∀ j, j < n → f (i + j) = g (k + j)) → win f i n = win g k n
  | 0, _ => rfl
  | n + 1, h => by
    unfold win
    rw [win_congr n (fun j hj => h j (by omega)), h n (by omega)]

theorem bitB_xor (a b : Bool) : bitB (a ^^ b) = bitB a ^^^ bitB b := by cases a <;> cases b <;> rfl

theorem win_xor (f g : Nat → Bool) (i : Nat) : ∀ n, win (fun j => f j ^^ g j) i n = win f i n ^^^ win g i n
  | 0 => by simp [win]
  | n + 1 => by
    unfold win
    rw [win_xor f g i n, BitVec.shiftLeft_xor_distrib, bitB_xor]
    ac_rfl

theorem bitB_get (b : Bool) (k : Nat) : (bitB b).getLsbD k = (decide (k = 0) && b) := by
  cases b
  · simp [bitB]
  · simp only [bitB, if_true, Bool.and_true]
    by_cases hk : k = 0
    · subst hk; rfl
    · have e : (1#32 : BitVec 32) = BitVec.twoPow 32 0 := by decide
      rw [e, BitVec.getLsbD_twoPow]
      simp [hk]
      intro _
      omega

theorem win_get (f : Nat → Bool) (i : Nat) : ∀ n k, k < 32 → (win f i n).getLsbD k = (decide (k < n) && f (i + (n - 1 - k)))
  | 0, k, _ => by simp [win]
  | n + 1, k, hk => by
    unfold win
    rw [BitVec.getLsbD_xor, BitVec.getLsbD_shiftLeft, bitB_get]
    by_cases h0 : k = 0
    · subst h0
      simp
    · have : k - 1 < 32 := by omega
      rw [win_get f i n (k - 1) this]
      have e : n - 1 - (k - 1) = n + 1 - 1 - k := by omega
      rw [e]
      have d : decide (k < n + 1) = decide (k - 1 < n) := by
        rw [decide_eq_decide]; omega
      rw [d]
      simp [h0, hk]

/-- The window moves on by one. -/
theorem win_next (f : Nat → Bool) (i : Nat) : win f (i + 1) 32 = (win f i 32 <<< 1) ^^^ bitB (f (i + 32)) := by
  refine BitVec.eq_of_getLsbD_eq fun k hk => ?_
  rw [win_get _ _ _ _ hk, BitVec.getLsbD_xor, BitVec.getLsbD_shiftLeft, bitB_get]
  by_cases h0 : k = 0
  · subst h0
    simp
  · have h1 : k - 1 < 32 := by omega
    rw [win_get _ _ _ _ h1]
    have e : i + 1 + (32 - 1 - k) = i + (32 - 1 - (k - 1)) := by omega
    rw [e]
    simp [h0, hk, h1]

theorem win_top (f : Nat → Bool) (i : Nat) : (win f i 32).getLsbD 31 = f i := by
  rw [win_get _ _ _ _ (by omega)]
  simp

theorem win_div : win (fun j => dAt j) 1 32 = poly := by decide +kernel

/-- A round: the window behind it. -/
theorem win_rest (R : List Bool) (i : Nat) (h : i + 33 ≤ R.length) :
    win (fun j => (restR R (i + 1)).getD j false) (i + 1) 32 = onB (win (fun j => (restR R i).getD j false) i 32) ^^^ bitB (R.getD (i + 32) false) := by
  have hl := restR_length R i
  have hfar := restR_far R i (i + 32) (Nat.le_refl _)
  have hn := win_next (fun j => (restR R i).getD j false) i
  have ht := win_top (fun j => (restR R i).getD j false) i
  simp only [hfar] at hn
  have er : restR R (i + 1) = if (restR R i).getD i false then flipN (restR R i) i 33 else restR R i := rfl
  unfold onB
  rw [ht, er]
  by_cases hb : (restR R i).getD i false = true
  · rw [if_pos hb, if_pos hb]
    have e : win (fun j => (flipN (restR R i) i 33).getD j false) (i + 1) 32 = win (fun j => (restR R i).getD j false ^^ dAt (j - i)) (i + 1) 32 := by
      refine win_congr 32 fun j hj => ?_
      rw [flipN_get, if_pos (by omega)]
    rw [e, win_xor, hn]
    have e2 : win (fun j => dAt (j - i)) (i + 1) 32 = poly := by
      rw [← win_div]
      refine win_congr 32 fun j _ => ?_
      have : i + 1 + j - i = 1 + j := by omega
      rw [this]
    rw [e2]
    ac_rfl
  · rw [if_neg hb, if_neg hb, hn, BitVec.xor_zero]

/-- A bit more. -/
def bitstep (r : BitVec 32) (b : Bool) : BitVec 32 := onB (r ^^^ if b then topB else 0#32)

/-- THE DIVISION: the window is the rest so far, and the bits to come. -/
theorem win_all (R M : List Bool) (hR : R.length = M.length) (hf : ∀ j, R.getD j false = (M.getD j false ^^ decide (j < 32))) :
    ∀ i, i + 32 ≤ R.length → win (fun j => (restR R i).getD j false) i 32 = (M.take i).foldl bitstep (~~~ 0#32) ^^^ win (fun j => M.getD j false) i 32
  | 0, h => by
    have e : win (fun j => (restR R 0).getD j false) 0 32 = win (fun j => M.getD j false ^^ decide (j < 32)) 0 32 := win_congr 32 fun j _ => hf _
    rw [e, win_xor]
    have e2 : win (fun j => decide (j < 32)) 0 32 = ~~~ 0#32 := by decide +kernel
    rw [e2]
    exact BitVec.xor_comm _ _
  | i + 1, h => by
    have ih := win_all R M hR hf i (by omega)
    have hn := win_next (fun j => M.getD j false) i
    have ht := win_top (fun j => M.getD j false) i
    have hlt : i < M.length := by omega
    rw [win_rest R i (by omega), ih]
    have e1 : R.getD (i + 32) false = M.getD (i + 32) false := by rw [hf, decide_eq_false (by omega), Bool.xor_false]
    rw [e1, hn, List.take_succ_eq_append_getElem hlt, List.foldl_append]
    have e2 : M.getD i false = M[i] := by simp [List.getD_eq_getElem?_getD, hlt]
    simp only [e2] at ht
    show _ = bitstep ((M.take i).foldl bitstep (~~~ 0#32)) M[i] ^^^ _
    generalize (M.take i).foldl bitstep (~~~ 0#32) = r at ih ⊢
    generalize win (fun j => M.getD j false) i 32 = W at ih ht ⊢
    unfold bitstep
    rw [← ht]
    cases hW : W.getLsbD 31 with
    | false =>
      have e3 : onB W = W <<< 1 := by unfold onB; rw [hW]; simp
      simp only [if_false, BitVec.xor_zero, Bool.false_eq_true]
      rw [on_xor, e3]
      ac_rfl
    | true =>
      have e3 : onB W = W <<< 1 ^^^ poly := by unfold onB; rw [hW]; simp
      have e4 : onB topB = poly := by decide
      simp only [if_true]
      rw [on_xor, on_xor, e3, e4]
      ac_rfl

/-- The bits of a byte. -/
def bits8 (c : UInt8) : List Bool := (List.range 8).map fun k => c.toNat.testBit (7 - k)
def bitsB (xs : List UInt8) : List Bool := xs.flatMap bits8

theorem bits8_zero : ∀ c : Fin 256, ((List.range 8).map fun k => c.val.testBit (7 - k)).foldl bitstep 0#32 = on8 (BitVec.ofNat 32 c.val <<< 24) := by decide +kernel

theorem bitstep_xor (r s : BitVec 32) (b : Bool) : bitstep (r ^^^ s) b = onB r ^^^ bitstep s b := by
  unfold bitstep
  rw [BitVec.xor_assoc, on_xor]

theorem bits8_step (r : BitVec 32) (c : UInt8) : (bits8 c).foldl bitstep r = stepB r c := by
  have h := bits8_zero ⟨c.toNat, c.toNat_lt⟩
  dsimp only at h
  have e : r = r ^^^ 0#32 := by simp
  unfold stepB headB
  rw [on8_xor, ← h]
  unfold bits8
  conv => lhs; rw [e]
  generalize (0#32 : BitVec 32) = z
  simp only [List.range_succ, List.range_zero, List.nil_append, List.cons_append, List.map_cons, List.map_nil, List.foldl_cons, List.foldl_nil, bitstep_xor]
  rfl

theorem bitsB_fold (xs : List UInt8) : ∀ r, (bitsB xs).foldl bitstep r = behindB r xs := by
  induction xs with
  | nil => exact fun _ => rfl
  | cons c xs ih =>
    intro r
    show (bits8 c ++ bitsB xs).foldl bitstep r = _
    rw [List.foldl_append, bits8_step, ih]
    rfl

theorem bitsB_length (xs : List UInt8) : (bitsB xs).length = 8 * xs.length := by
  induction xs with
  | nil => rfl
  | cons c xs ih =>
    show (bits8 c ++ bitsB xs).length = _
    rw [List.length_append, ih, List.length_cons]
    have : (bits8 c).length = 8 := by simp [bits8]
    omega

/-- The row that is divided: the first 32 bits turned. -/
def rowB (xs : List UInt8) : List Bool := ((bitsB xs ++ List.replicate 32 false).zipIdx).map fun x => x.1 ^^ decide (x.2 < 32)

theorem rowB_length (xs : List UInt8) : (rowB xs).length = 8 * xs.length + 32 := by
  unfold rowB
  simp [bitsB_length]

theorem rowB_get (xs : List UInt8) (j : Nat) : (rowB xs).getD j false = ((bitsB xs ++ List.replicate 32 false).getD j false ^^ decide (j < 32)) := by
  unfold rowB
  rw [List.getD_eq_getElem?_getD, List.getD_eq_getElem?_getD, List.getElem?_map, List.getElem?_zipIdx]
  rcases h : (bitsB xs ++ List.replicate 32 false)[j]? with _ | b
  · have : 32 ≤ j := by
      have := List.getElem?_eq_none_iff.1 h
      simp at this
      omega
    simp
    omega
  · simp

/-- THE SUM, by the division. -/
theorem sum_rest (xs : List UInt8) : ~~~ win (fun j => (restR (rowB xs) (8 * xs.length)).getD j false) (8 * xs.length) 32 = sumB xs := by
  have hb := bitsB_length xs
  have h := win_all (rowB xs) (bitsB xs ++ List.replicate 32 false) (by simp [rowB_length, hb]) (rowB_get xs) (8 * xs.length) (by rw [rowB_length]; omega)
  rw [h]
  have e1 : (bitsB xs ++ List.replicate 32 false).take (8 * xs.length) = bitsB xs := by
    rw [← hb]; exact List.take_left
  have e2 : win (fun j => (bitsB xs ++ List.replicate 32 false).getD j false) (8 * xs.length) 32 = 0#32 := by
    have e3 : win (fun j => (bitsB xs ++ List.replicate 32 false).getD j false) (8 * xs.length) 32 = win (fun _ => false) 0 32 := by
      refine win_congr 32 fun j hj => ?_
      rw [List.getD_eq_getElem?_getD, List.getElem?_append_right (by omega), List.getElem?_replicate]
      split <;> rfl
    rw [e3]
    decide +kernel
  rw [e1, e2, BitVec.xor_zero, bitsB_fold]
  rfl
end Go.Proofs.Ytojgdejofpafkaa
