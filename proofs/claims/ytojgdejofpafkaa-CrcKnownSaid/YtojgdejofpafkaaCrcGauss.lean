/- The document's equations over 32 bits: plain laws. No program in sight. -/
import Derived.Test.YtojgdejofpafkaaCrc2
namespace Go.Proofs.Ytojgdejofpafkaa

/-- The sums of some of a row's numbers. -/
inductive Span (a : Nat → BitVec 32) : BitVec 32 → Prop
  | zero : Span a 0#32
  | add {i : Nat} {y : BitVec 32} (hi : i < 32) (h : Span a y) : Span a (y ^^^ a i)

theorem Span.one {a : Nat → BitVec 32} {i : Nat} (hi : i < 32) : Span a (a i) := by
  have := Span.add hi (Span.zero (a := a))
  rwa [BitVec.zero_xor] at this

theorem Span.xor {a : Nat → BitVec 32} {x y : BitVec 32} (hx : Span a x) (hy : Span a y) : Span a (x ^^^ y) := by
  induction hy with
  | zero => rwa [BitVec.xor_zero]
  | add hi _ ih => rw [← BitVec.xor_assoc]; exact Span.add hi ih

theorem Span.sub {a b : Nat → BitVec 32} (h : ∀ i, i < 32 → Span b (a i)) {y : BitVec 32} (hy : Span a y) : Span b y := by
  induction hy with
  | zero => exact .zero
  | add hi _ ih => exact ih.xor (h _ hi)

theorem Span.map {a b : Nat → BitVec 32} {L : BitVec 32 → BitVec 32} (hL : ∀ x y, L (x ^^^ y) = L x ^^^ L y) (hL0 : L 0#32 = 0#32) (h : ∀ i, i < 32 → L (a i) = b i) {y : BitVec 32} (hy : Span a y) : Span b (L y) := by
  induction hy with
  | zero => rw [hL0]; exact .zero
  | add hi _ ih => rw [hL, h _ hi]; exact Span.add hi ih

/-- Every number is a sum of single bits. -/
theorem span_bits {a : Nat → BitVec 32} (h : ∀ k, k < 32 → Span a (BitVec.twoPow 32 k)) (x : BitVec 32) : Span a x := by
  have key : ∀ n, n ≤ 32 → ∃ y, Span a y ∧ ∀ k, k < 32 → y.getLsbD k = (decide (k < n) && x.getLsbD k) := by
    intro n
    induction n with
    | zero => exact fun _ => ⟨0#32, .zero, fun k _ => by simp⟩
    | succ n ih =>
      intro hn
      obtain ⟨y, hy, hk⟩ := ih (by omega)
      cases hb : x.getLsbD n with
      | false =>
        refine ⟨y, hy, fun k hk32 => ?_⟩
        rw [hk k hk32]
        by_cases e : k = n
        · subst e; simp [hb]
        · have : decide (k < n + 1) = decide (k < n) := by rw [decide_eq_decide]; omega
          rw [this]
      | true =>
        refine ⟨y ^^^ BitVec.twoPow 32 n, hy.xor (h n (by omega)), fun k hk32 => ?_⟩
        rw [BitVec.getLsbD_xor, hk k hk32, BitVec.getLsbD_twoPow]
        by_cases e : k = n
        · subst e; simp [hb, hk32]
        · have : decide (k < n + 1) = decide (k < n) := by rw [decide_eq_decide]; omega
          have e2 : ¬ n = k := fun h => e h.symm
          rw [this]
          simp [e2]
  obtain ⟨y, hy, hk⟩ := key 32 (Nat.le_refl _)
  have : y = x := BitVec.eq_of_getLsbD_eq fun k hk32 => by rw [hk k hk32]; simp [hk32]
  rwa [this] at hy

/-- A measure that all sums of a row leave at nought. -/
def phi (a : Nat → BitVec 32) (n : Nat) : Nat → BitVec 32 → Bool
  | 0, y => y.getLsbD n
  | k + 1, y => phi a n k y ^^ (y.getLsbD k && (a k).getLsbD n)

theorem phi_xor (a : Nat → BitVec 32) (n : Nat) : ∀ k x y, phi a n k (x ^^^ y) = (phi a n k x ^^ phi a n k y)
  | 0, x, y => BitVec.getLsbD_xor
  | k + 1, x, y => by
    unfold phi
    rw [phi_xor a n k x y, BitVec.getLsbD_xor]
    cases phi a n k x <;> cases phi a n k y <;> cases x.getLsbD k <;> cases y.getLsbD k <;> cases (a k).getLsbD n <;> rfl

theorem phi_zero (a : Nat → BitVec 32) (n : Nat) : ∀ k, phi a n k 0#32 = false
  | 0 => by simp [phi]
  | k + 1 => by unfold phi; rw [phi_zero a n k]; simp

theorem phi_bits (a : Nat → BitVec 32) (n : Nat) : ∀ (k : Nat) (y : BitVec 32), (∀ j, j < k → y.getLsbD j = false) → phi a n k y = y.getLsbD n
  | 0, _, _ => rfl
  | k + 1, y, h => by
    unfold phi
    rw [phi_bits a n k y (fun j hj => h j (by omega)), h k (by omega)]
    simp

theorem phi_unit (a : Nat → BitVec 32) (n : Nat) (y : BitVec 32) (i : Nat) (hy : ∀ j, y.getLsbD j = true → j < n → j = i) (hi : y.getLsbD i = true) (hn : y.getLsbD n = (a i).getLsbD n) :
    ∀ k, k ≤ n → phi a n k y = (y.getLsbD n ^^ (decide (i < k) && y.getLsbD n))
  | 0, _ => by simp [phi]
  | k + 1, hk => by
    unfold phi
    rw [phi_unit a n y i hy hi hn k (by omega)]
    by_cases e : i = k
    · subst e
      have d1 : decide (i < i) = false := by simp
      have d2 : decide (i < i + 1) = true := by simp
      rw [d1, d2, hi, hn]
      cases (a i).getLsbD n <;> rfl
    · have d : decide (i < k + 1) = decide (i < k) := by rw [decide_eq_decide]; omega
      have hb : y.getLsbD k = false := by
        cases hb : y.getLsbD k
        · rfl
        · exact absurd (hy k hb (by omega)).symm e
      rw [d, hb]
      simp

/-- What stands behind n rounds. -/
structure Solved (L : BitVec 32 → BitVec 32) (a b : Nat → BitVec 32) (n : Nat) : Prop where
  maps : ∀ i, i < 32 → L (b i) = a i
  spans : ∀ y, Span a y
  unit : ∀ j i, j < n → i < 32 → (a i).getLsbD j = decide (i = j)

/-- There is a pivot. -/
theorem Solved.pivot {L : BitVec 32 → BitVec 32} {a b : Nat → BitVec 32} {n : Nat} (h : Solved L a b n) (hn : n < 32) : ∃ p, n ≤ p ∧ p < 32 ∧ (a p).getLsbD n = true := by
  refine Classical.byContradiction fun hno => ?_
  have hz : ∀ p, n ≤ p → p < 32 → (a p).getLsbD n = false := fun p h1 h2 => by
    cases hb : (a p).getLsbD n
    · rfl
    · exact absurd ⟨p, h1, h2, hb⟩ hno
  have hphi : ∀ y, Span a y → phi a n n y = false := by
    intro y hy
    induction hy with
    | zero => exact phi_zero a n n
    | @add i y hi _ ih =>
      rw [phi_xor, ih, Bool.false_xor]
      by_cases c : n ≤ i
      · rw [phi_bits a n n (a i) (fun j hj => by rw [h.unit j i hj hi]; simp; omega)]
        exact hz i c hi
      · rw [phi_unit a n (a i) i (fun j hj hjn => by rw [h.unit j i hjn hi] at hj; exact (of_decide_eq_true hj).symm) (by rw [h.unit i i (by omega) hi]; simp) rfl n (Nat.le_refl _)]
        have d : decide (i < n) = true := by simp; omega
        rw [d]
        simp
  have hlast := hphi _ (h.spans (BitVec.twoPow 32 n))
  rw [phi_bits a n n _ (fun j hj => by rw [BitVec.getLsbD_twoPow]; simp; omega), BitVec.getLsbD_twoPow] at hlast
  simp [hn] at hlast

/-- Two numbers change places. -/
def swp (a : Nat → BitVec 32) (n p : Nat) : Nat → BitVec 32 := fun i => if i = n then a p else if i = p then a n else a i

theorem swp_n {a : Nat → BitVec 32} {n p : Nat} : swp a n p n = a p := by simp [swp]
theorem swp_p {a : Nat → BitVec 32} {n p : Nat} : swp a n p p = a n := by
  unfold swp
  by_cases e : p = n
  · rw [if_pos e, e]
  · rw [if_neg e, if_pos rfl]
theorem swp_o {a : Nat → BitVec 32} {n p i : Nat} (h1 : i ≠ n) (h2 : i ≠ p) : swp a n p i = a i := by simp [swp, h1, h2]

theorem Solved.swap {L : BitVec 32 → BitVec 32} {a b : Nat → BitVec 32} {n p : Nat} (h : Solved L a b n) (hn : n ≤ p) (hp : p < 32) : Solved L (swp a n p) (swp b n p) n := by
  refine ⟨fun i hi => ?_, fun y => ?_, fun j i hj hi => ?_⟩
  · unfold swp
    split
    · exact h.maps p hp
    · split
      · exact h.maps n (by omega)
      · exact h.maps i hi
  · refine (h.spans y).sub fun i hi => ?_
    by_cases e1 : i = n
    · subst e1
      have := Span.one (a := swp a i p) hp
      rwa [swp_p] at this
    · by_cases e2 : i = p
      · subst e2
        have := Span.one (a := swp a n i) (i := n) (by omega)
        rwa [swp_n] at this
      · have := Span.one (a := swp a n p) hi
        rwa [swp_o e1 e2] at this
  · unfold swp
    split
    · next e => rw [h.unit j p hj hp, decide_eq_decide]; omega
    · split
      · next e => rw [h.unit j n hj (by omega), decide_eq_decide]; omega
      · exact h.unit j i hj hi

/-- One number is added to another. -/
def addTo (a : Nat → BitVec 32) (n i : Nat) : Nat → BitVec 32 := fun k => if k = i then a i ^^^ a n else a k

theorem addTo_m {a : Nat → BitVec 32} {n m : Nat} : addTo a n m m = a m ^^^ a n := by simp [addTo]
theorem addTo_o {a : Nat → BitVec 32} {n m k : Nat} (h : k ≠ m) : addTo a n m k = a k := by simp [addTo, h]

/-- What stands amid a round: the first m numbers have lost the bit. -/
structure Amid (L : BitVec 32 → BitVec 32) (a b : Nat → BitVec 32) (n m : Nat) : Prop where
  sol : Solved L a b n
  piv : (a n).getLsbD n = true
  lost : ∀ i, i < m → i ≠ n → (a i).getLsbD n = false

theorem Amid.add {L : BitVec 32 → BitVec 32} (hL : ∀ x y, L (x ^^^ y) = L x ^^^ L y) {a b : Nat → BitVec 32} {n m : Nat} (h : Amid L a b n m) (hn : n < 32) (hm : m < 32) (hne : m ≠ n) (hb : (a m).getLsbD n = true) :
    Amid L (addTo a n m) (addTo b n m) n (m + 1) := by
  refine ⟨⟨fun i hi => ?_, fun y => ?_, fun j i hj hi => ?_⟩, ?_, fun i hi hin => ?_⟩
  · unfold addTo
    split
    · rw [hL, h.sol.maps m hm, h.sol.maps n hn]
    · exact h.sol.maps i hi
  · refine (h.sol.spans y).sub fun i hi => ?_
    have s1 : Span (addTo a n m) (a n) := by
      have := Span.one (a := addTo a n m) hn
      rwa [addTo_o (fun e => hne e.symm)] at this
    by_cases e : i = m
    · subst e
      have := Span.one (a := addTo a n i) hi
      rw [addTo_m] at this
      have := this.xor s1
      rwa [xor_self_right] at this
    · have := Span.one (a := addTo a n m) hi
      rwa [addTo_o e] at this
  · unfold addTo
    split
    · next e =>
      subst e
      rw [BitVec.getLsbD_xor, h.sol.unit j i hj hi, h.sol.unit j n hj hn]
      have : decide (n = j) = false := by simp; omega
      rw [this, Bool.xor_false]
    · exact h.sol.unit j i hj hi
  · unfold addTo
    have hne' : ¬ n = m := fun e => hne e.symm
    rw [if_neg hne']
    exact h.piv
  · unfold addTo
    split
    · next e => rw [BitVec.getLsbD_xor, hb, h.piv]; rfl
    · next e => exact h.lost i (by omega) hin

theorem Amid.skip {L : BitVec 32 → BitVec 32} {a b : Nat → BitVec 32} {n m : Nat} (h : Amid L a b n m) (hb : m = n ∨ (a m).getLsbD n = false) : Amid L a b n (m + 1) := by
  refine ⟨h.sol, h.piv, fun i hi hin => ?_⟩
  by_cases e : i = m
  · subst e
    rcases hb with hb | hb
    · exact absurd hb hin
    · exact hb
  · exact h.lost i (by omega) hin

theorem Amid.done {L : BitVec 32 → BitVec 32} {a b : Nat → BitVec 32} {n : Nat} (h : Amid L a b n 32) : Solved L a b (n + 1) := by
  refine ⟨h.sol.maps, h.sol.spans, fun j i hj hi => ?_⟩
  by_cases e : j = n
  · subst e
    by_cases e2 : i = j
    · subst e2
      rw [h.piv]; simp
    · rw [h.lost i hi e2]; simp [e2]
  · exact h.sol.unit j i (by omega) hi

theorem Solved.unit_all {L : BitVec 32 → BitVec 32} {a b : Nat → BitVec 32} (h : Solved L a b 32) (i : Nat) (hi : i < 32) : a i = BitVec.twoPow 32 i := by
  refine BitVec.eq_of_getLsbD_eq fun j hj => ?_
  rw [h.unit j i hj hi, BitVec.getLsbD_twoPow, decide_eq_true hi, Bool.true_and]

/-- The solution so far. -/
def solB (b : Nat → BitVec 32) (d : BitVec 32) : Nat → BitVec 32
  | 0 => 0#32
  | n + 1 => if d.getLsbD n then solB b d n ^^^ b n else solB b d n

theorem Solved.sol {L : BitVec 32 → BitVec 32} (hL : ∀ x y, L (x ^^^ y) = L x ^^^ L y) (hL0 : L 0#32 = 0#32) {a b : Nat → BitVec 32} (h : Solved L a b 32) (d : BitVec 32) : L (solB b d 32) = d := by
  have key : ∀ n, n ≤ 32 → ∀ k, k < 32 → (L (solB b d n)).getLsbD k = (decide (k < n) && d.getLsbD k) := by
    intro n
    induction n with
    | zero => intro _ k _; show (L 0#32).getLsbD k = _; rw [hL0]; simp
    | succ n ih =>
      intro hn k hk
      have ih := ih (by omega) k hk
      unfold solB
      cases hb : d.getLsbD n with
      | false =>
        simp only [Bool.false_eq_true, if_false]
        rw [ih]
        by_cases e : k = n
        · subst e; simp [hb]
        · have : decide (k < n + 1) = decide (k < n) := by rw [decide_eq_decide]; omega
          rw [this]
      | true =>
        simp only [if_true]
        rw [hL, h.maps n (by omega), h.unit_all n (by omega), BitVec.getLsbD_xor, ih, BitVec.getLsbD_twoPow]
        by_cases e : k = n
        · subst e; simp [hb, hk]
        · have : decide (k < n + 1) = decide (k < n) := by rw [decide_eq_decide]; omega
          have e2 : ¬ n = k := fun h => e h.symm
          rw [this]
          simp [e2]
  exact BitVec.eq_of_getLsbD_eq fun k hk => by rw [key 32 (Nat.le_refl _) k hk]; simp [hk]

/-- What the four bytes add to a Sum. -/
def addB (rest : List UInt8) (x : BitVec 32) : BitVec 32 := behindB (on32 x) (List.replicate rest.length 0)

theorem zip_self : ∀ l : List UInt8, List.zipWith (· ^^^ ·) l (List.replicate l.length 0) = l
  | [] => rfl
  | c :: l => by
    show (c ^^^ 0) :: _ = _
    rw [zip_self l, UInt8.xor_zero]

theorem zip_zero : ∀ n : Nat, List.zipWith (· ^^^ ·) (List.replicate n (0 : UInt8)) (List.replicate n 0) = List.replicate n 0
  | 0 => rfl
  | n + 1 => by
    show (0 ^^^ 0 : UInt8) :: _ = 0 :: _
    rw [zip_zero n]
    rfl

theorem addB_xor (rest : List UInt8) (x y : BitVec 32) : addB rest (x ^^^ y) = addB rest x ^^^ addB rest y := by
  unfold addB
  rw [on32_xor, ← behind_xor _ _ _ _ rfl, zip_zero]

theorem addB_zero (rest : List UInt8) : addB rest 0#32 = 0#32 := by
  have h := addB_xor rest 0#32 0#32
  rw [BitVec.xor_self, BitVec.xor_self] at h
  exact h

theorem addB_onto (rest : List UInt8) (y : BitVec 32) : ∃ x, addB rest x = y :=
  ⟨off32 (aheadB y (List.replicate rest.length 0)), by unfold addB; rw [on32_off32, behind_ahead]⟩

/-- The Sum, with four bytes in the hole. -/
theorem sum_hole (pre rest : List UInt8) (a b c d : UInt8) : sumB (pre ++ ([a, b, c, d] ++ rest)) = sumB (pre ++ ([0, 0, 0, 0] ++ rest)) ^^^ addB rest (fourB a b c d) := by
  have h0 : fourB 0 0 0 0 = 0#32 := by decide
  unfold sumB addB
  rw [behindB_append, behindB_append, behindB_append, behindB_append, behind_four, behind_four, h0, BitVec.xor_zero]
  generalize behindB (~~~ 0#32) pre = p
  rw [on32_xor]
  conv => lhs; rw [← zip_self rest]
  rw [behind_xor _ _ _ _ (by simp)]
  have e : ∀ z : BitVec 32, ~~~ z = BitVec.allOnes 32 ^^^ z := fun _ => BitVec.allOnes_xor.symm
  rw [e, e]
  ac_rfl
end Go.Proofs.Ytojgdejofpafkaa
